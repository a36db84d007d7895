/- Texts of this seat, merged. -/
import Derived.StillTailTactics
import Derived.RegionTactic
import Derived.Deep.CutRange
import Derived.Deep.CutBlock
import Derived.Lib.AtoiErrMem
import Derived.Shelf.Strconv.ErrVarAll
import Derived.Outline
import Derived.Shelf.SlSortCmp.WholeK
import Derived.Shelf.SlSortCmp.NoneTotal
import Derived.Shelf.SlSortCmp.InsertionK
import Derived.Ground.SlsfProg
import Derived.Test.YtoalecalahkblaaGreatDoorProg
import Derived.Sort.LotA
import Derived.Sort.WalkA
import Derived.Test.YtoalecalahkblaaGreatDoorIw01
import Derived.Test.YtoalecalahkblaaGreatDoorIw02
set_option linter.all false
set_option linter.all false
namespace Go.Proofs.YtoalecalahkblaaGreatDoor
open Go.RowKit
def mpV (m : Mp) (dv kv : Value) : Value := .agg #[.int .i64 m.cas, .int .i64 m.act, .int .i64 m.res, .int .i64 m.life, .int .i64 m.time, dv, kv, .int .u8 (m.sep.toNat : Int)]
structure FitM (m : Mp) : Prop where
  cas : Fit m.cas
  act : Fit m.act
  res : Fit m.res
  life : Fit m.life
  time : Fit m.time
def IsMp (D : Nat → Prop) (w : World) (u : Value) (m : Mp) : Prop := ∃ dv kv, u = mpV m dv kv ∧ FitM m ∧ SlI D w dv m.data ∧ SlI D w kv m.kinds
theorem IsMp.now {w w' : World} {u : Value} {m : Mp} (h : IsMp (Lt w.heap.size) w u m) (hb : Below w.heap.size w w') : IsMp (Lt w'.heap.size) w' u m := by
  obtain ⟨dv, kv, rfl, hf, h1, h2⟩ := h
  exact ⟨dv, kv, rfl, hf, h1.now hb, h2.now hb⟩
theorem Blk.c8m {w : World} {g : Nat} {t : TypeId} {a b c d e f x y : Value} (h : Blk w g t #[a, b, c, d, e, f, x, y]) : w.cell? ⟨g, 0, none⟩ = some a ∧ w.cell? ⟨g, 1, none⟩ = some b ∧ w.cell? ⟨g, 2, none⟩ = some c ∧ w.cell? ⟨g, 3, none⟩ = some d ∧ w.cell? ⟨g, 4, none⟩ = some e ∧ w.cell? ⟨g, 5, none⟩ = some f ∧ w.cell? ⟨g, 6, none⟩ = some x ∧ w.cell? ⟨g, 7, none⟩ = some y :=
  ⟨h.cell 0, h.cell 1, h.cell 2, h.cell 3, h.cell 4, h.cell 5, h.cell 6, h.cell 7⟩
def headC (m : Mp) (k : Nat) : List Int := ([m.cas, m.act, m.time] ++ m.data) ++ (if 1 ≤ k ∧ m.res ≠ -1 then [m.res] else []) ++ (if 2 ≤ k ∧ m.life ≠ -1 then [m.life] else [])
theorem headC_two (m : Mp) : headC m 2 = colsB m := by
  unfold headC colsB
  congr 1
  · congr 1
    by_cases h : m.res = -1
    · rw [if_neg (by simp [h]), if_pos h]
    · rw [if_pos ⟨by omega, h⟩, if_neg h]
  · by_cases h : m.life = -1
    · rw [if_neg (by simp [h]), if_pos h]
    · rw [if_pos ⟨by omega, h⟩, if_neg h]
theorem headC_zero (m : Mp) : headC m 0 = [m.cas, m.act, m.time] ++ m.data := by
  unfold headC; rw [if_neg (by omega), if_neg (by omega)]; simp
theorem headC_res (m : Mp) : headC m 1 = headC m 0 ++ (if m.res = -1 then [] else [m.res]) := by
  rw [headC_zero]
  unfold headC
  rw [if_neg (by omega : ¬ (2 ≤ 1 ∧ m.life ≠ -1)), List.append_nil]
  congr 1
  by_cases h : m.res = -1
  · rw [if_neg (by simp [h]), if_pos h]
  · rw [if_pos ⟨by omega, h⟩, if_neg h]
theorem headC_life (m : Mp) : headC m 2 = headC m 1 ++ (if m.life = -1 then [] else [m.life]) := by
  unfold headC
  rw [if_neg (by omega : ¬ (2 ≤ 1 ∧ m.life ≠ -1)), List.append_nil]
  congr 1
  · congr 1
    by_cases h : m.res = -1
    · rw [if_neg (by simp [h]), if_neg (by simp [h])]
    · rw [if_pos ⟨by omega, h⟩, if_pos ⟨by omega, h⟩]
  · by_cases h : m.life = -1
    · rw [if_neg (by simp [h]), if_pos h]
    · rw [if_pos ⟨by omega, h⟩, if_neg h]
theorem nodup_of : ∀ zs : List Int, (∀ (i : Nat) x, zs[i]? = some x → x ∉ zs.take i) → zs.Nodup := by
  intro zs
  have key : ∀ n, n ≤ zs.length → (∀ (i : Nat) x, zs[i]? = some x → x ∉ zs.take i) → (zs.take n).Nodup := by
    intro n
    induction n with
    | zero => intro _ _; rw [List.take_zero]; exact List.nodup_nil
    | succ n ih =>
      intro hn h
      rw [List.take_add_one, List.getElem?_eq_getElem (by omega), List.nodup_append]
      refine ⟨ih (by omega) h, by simp, ?_⟩
      intro a ha b hb e
      have hb : b = zs[n] := by simpa using hb
      subst hb
      rw [e] at ha
      exact h n _ (List.getElem?_eq_getElem (by omega)) ha
  intro h
  have := key zs.length (Nat.le_refl _) h
  rwa [List.take_of_length_le (Nat.le_refl _)] at this
theorem not_nodup {zs : List Int} {i : Nat} {x : Int} (hx : zs[i]? = some x) (h : x ∈ zs.take i) : ¬ zs.Nodup := by
  intro hn
  obtain ⟨hi, rfl⟩ := List.getElem?_eq_some_iff.1 hx
  obtain ⟨j, hj, e⟩ := List.mem_iff_getElem.1 h
  rw [List.getElem_take] at e
  rw [List.length_take] at hj
  exact List.pairwise_iff_getElem.1 hn j i (by omega) hi (by omega) e
theorem mapB_eq {m : Mp} (h1 : isSep m.sep = true) (h2 : m.data.length ≤ 8) (h3 : m.kinds.length = m.data.length) : mapB m = ((colsB m).all (fun k => decide (0 ≤ k) && decide (k < 40)) && decide (colsB m).Nodup && m.kinds.all kindB) := by
  unfold mapB
  rw [h1, decide_eq_true h2, decide_eq_true h3]; rfl
theorem mapB_bad {m : Mp} (h : isSep m.sep = false ∨ 8 < m.data.length ∨ m.kinds.length ≠ m.data.length) : mapB m = false := by
  unfold mapB
  rcases h with h | h | h
  · rw [h]; rfl
  · rw [decide_eq_false (by omega : ¬ m.data.length ≤ 8)]; simp
  · rw [decide_eq_false h]; simp
theorem kind_any (k : Int) (w : World) : Calls Tryz.prog 63 #[.int .i64 k] w fun e w' => e = .returned (.bool (!kindB k)) ∧ w = w' := by
  have HK : Hid (kindB k = ((k == 1) || (k == 2) || (k == 3))) := by
    show _ = _
    unfold kindB
    rw [show (k == 1) = decide (k = 1) from rfl, show (k == 2) = decide (k = 2) from rfl, show (k == 3) = decide (k = 3) from rfl]
  generalize kindB k = q at *
  have e1 : (k != 1) = !(k == 1) := rfl
  have e2 : (k != 2) = !(k == 2) := rfl
  have e3 : (k != 3) = !(k == 3) := rfl
  generalize (k == 1) = q1 at *
  generalize (k == 2) = q2 at *
  generalize (k == 3) = q3 at *
  cases q1 <;> cases q2 <;> cases q3
  all_goals
    simp only [Bool.not_true, Bool.not_false] at e1 e2 e3
    go_enter Tryz.func63, Tryz.ntmps63
    go_wp2_with fail
    go_ret
    exact ⟨ret_bool (by rw [HK.out]; rfl), rfl⟩
theorem enters_kind : ∀ args w, (callFunc 63 args).run Tryz.prog w = .ok (.enter 63 args) w := enters_of Tryz.func63 (by kernel_rfl) rfl
theorem kinds_any (v : Value) (zs : List Int) (w : World) (h : SlI (Lt w.heap.size) w v zs) :
    Calls Tryz.prog 62 #[v, .func (.func 63) #[] #[]] w fun e w' => e = .returned (.bool (!zs.all kindB)) ∧ Below w.heap.size w w' := by
  have hf : AsksF 63 #[] RInt w zs (fun k => !kindB k) := by
    intro x u W _ hr _
    obtain ⟨h1, _⟩ := hr
    injection h1 with h1
    subst h1
    exact (kind_any x W).mono fun e w' ⟨h1, h2⟩ => ⟨h1, h2 ▸ Below.refl _ _⟩
  have hc := contFI 63 #[] enters_kind v zs _ w h hf
  have e : (zs.any fun k => !kindB k) = !zs.all kindB := by
    clear hc hf h
    induction zs with
    | nil => rfl
    | cons a r ih => simp [List.any_cons, List.all_cons, ih]
  rw [e] at hc
  exact hc
abbrev mpCells (m : Mp) (dv kv : Value) : Array Value := #[.int .i64 m.cas, .int .i64 m.act, .int .i64 m.res, .int .i64 m.life, .int .i64 m.time, dv, kv, .int .u8 (m.sep.toNat : Int)]
theorem appInts : AppInfo Tryz.prog 31 3 1 := AppInfo.mk' (z := .int .i64 0) (bytes := 8) Tryz.underlying31 (by kernel_rfl) (by decide) rfl (by decide)
def OwnZ (w : World) (base : Nat) (v : Value) (zs : List Int) : Prop := w.ownsRow base 3 1 v zs.length (zs.map (Value.int .i64))
set_option maxHeartbeats 8000000 in
set_option maxRecDepth 100000 in
theorem valid_any (u : Value) (m : Mp) (w : World) (h : IsMp (Lt w.heap.size) w u m) (hb : m.data.length ≤ 1000000) :
    Calls Tryz.prog 18 #[u] w fun e w' => e = .returned (.bool (mapB m)) ∧ Below w.heap.size w w' := by
  obtain ⟨dv, kv, rfl, hfm, hd, hk⟩ := h
  obtain ⟨Ad, cd, rfl, _, _, hd⟩ := hd.open_
  obtain ⟨Ak, ck, rfl, _, _, hk⟩ := hk.open_
  have HFM := Lib.hid hfm
  have HD := Lib.hid hd
  have HK := Lib.hid hk
  have HSEP := Lib.hid (separates_any m.sep)
  obtain ⟨q, hq⟩ : ∃ q, isSep m.sep = q := ⟨_, rfl⟩
  rw [hq] at HSEP
  have HQ := Lib.hid hq
  have HB1 := Lib.hid (bone w (.cells (mpCells m (.slice Ad m.data.length cd) (.slice Ak m.kinds.length ck)) 33))
  have HM1 := Lib.hid (Blk.new w 33 (mpCells m (.slice Ad m.data.length cd) (.slice Ak m.kinds.length ck)))
  obtain ⟨z, hz⟩ : ∃ z, (m.sep.toNat : Int) = z := ⟨_, rfl⟩
  unfold mpV
  unfold mpCells at HB1 HM1
  rw [hz] at HSEP HB1 HM1 ⊢
  clear hfm hd hk hq hz
  go_enter Tryz.func18, Tryz.ntmps18
  go_upto_region 1 with fail
  obtain ⟨w1, hw1⟩ : ∃ w1, w.alloc (.cells #[.int .i64 m.cas, .int .i64 m.act, .int .i64 m.res, .int .i64 m.life, .int .i64 m.time, .slice Ad m.data.length cd, .slice Ak m.kinds.length ck, .int .u8 z] 33) = w1 := ⟨_, rfl⟩
  rw [hw1] at HB1 HM1 ⊢
  clear hw1
  obtain ⟨c0, c1, c2, c3, c4, c5, c6, c7⟩ := HM1.out.c8m
  obtain ⟨q1, hq1⟩ : ∃ q1, decide ((8 : Int) < (m.data.length : Int)) = q1 := ⟨_, rfl⟩
  obtain ⟨q2, hq2⟩ : ∃ q2, ((m.kinds.length : Int) != (m.data.length : Int)) = q2 := ⟨_, rfl⟩
  have HQ1 := Lib.hid hq1
  have HQ2 := Lib.hid hq2
  go_cut [26] from 8 to 26 (fun x W => x = .bool (!q || (q1 || q2)) ∧ w1 = W)
  case first =>
    cases q <;> cases q1 <;> cases q2
    all_goals
      go_wp2_with (go_at_call 39; (with_reducible refine (HSEP.out _).mono ?_); rintro _ w' ⟨rfl, rfl⟩)
      go_meet
      exact ⟨rfl, rfl⟩
  obtain ⟨rfl, rfl⟩ := hcut
  have HBAD : Hid ((!q || (q1 || q2)) = true → mapB m = false) := fun h => by
    refine mapB_bad ?_
    cases q with
    | false => exact .inl HQ.out
    | true =>
      cases q1 with
      | true => exact .inr (.inl (by have := of_decide_eq_true HQ1.out; omega))
      | false =>
        cases q2 with
        | true => exact .inr (.inr (fun e => by have := HQ2.out; rw [e] at this; simp at this))
        | false => cases h
  have HGOOD : Hid ((!q || (q1 || q2)) = false → m.data.length ≤ 8 ∧ mapB m = ((colsB m).all (fun k => decide (0 ≤ k) && decide (k < 40)) && decide (colsB m).Nodup && m.kinds.all kindB)) := fun h => by
    cases q with
    | false => cases h
    | true =>
      cases q1 with
      | true => cases h
      | false =>
        cases q2 with
        | true => cases h
        | false =>
          have h1 : m.data.length ≤ 8 := by have := of_decide_eq_false HQ1.out; omega
          have h2 : m.kinds.length = m.data.length := by have := HQ2.out; simp at this; omega
          exact ⟨h1, mapB_eq HQ.out h1 h2⟩
  generalize (!q || (q1 || q2)) = qq at *
  clear hq1 hq2 HQ HQ1 HQ2 HSEP
  cases qq with
  | true =>
    have HE := Lib.hid (HBAD.out rfl)
    go_wp2_with fail
    go_ret
    exact ⟨ret_bool HE.out.symm, HB1.out⟩
  | false =>
    obtain ⟨hd8, hE⟩ := HGOOD.out rfl
    have HE := Lib.hid hE
    have HD1 : Hid (SlI (Lt w1.heap.size) w1 (.slice Ad m.data.length cd) m.data) := SlI.below HD.out HB1.out HB1.out.size
    have HK1 : Hid (SlI (Lt w1.heap.size) w1 (.slice Ak m.kinds.length ck) m.kinds) := SlI.below HK.out HB1.out HB1.out.size
    clear HBAD HGOOD hE HD HK
    have HB2 := Lib.hid (bone w1 (.cells #[.int .i64 m.cas, .int .i64 m.act, .int .i64 m.time] 3))
    have HO2 : Hid (World.ownsRow (w1.alloc (.cells #[.int .i64 m.cas, .int .i64 m.act, .int .i64 m.time] 3)) w1.heap.size 3 1 (.slice (some ⟨w1.heap.size, 0, none⟩) 3 3) 3 [.int .i64 m.cas, .int .i64 m.act, .int .i64 m.time]) := World.ownsRow_lit (base := w1.heap.size) (e := 3) (size := 1) w1 #[.int .i64 m.cas, .int .i64 m.act, .int .i64 m.time] 3 (Nat.le_refl _) (by unfold maxLen; omega) rfl
    obtain ⟨d0, d1, d2, d3, d4, d5, d6, d7⟩ := (HM1.out.now HB2.out).c8m
    have HM2 := Lib.hid (HM1.out.now HB2.out)
    have HDA := Lib.hid (SlI.below HD1.out HB2.out HB2.out.size)
    go_upto_region 4 with (at_builtin; refine wpList_appendAll (R := RInt) appInts rfl (.tmp 33) (.tmp 35) rfl _ _ 3 _ rfl HO2.out _ m.data (Value.int .i64) rfl HDA.out (fun y c h => by obtain ⟨h, _⟩ := h; injection h) (fun _ => rfl) (by omega) HB2.out.size ?_; intro v' w3 hown hgr hat)
    have HO3 : Hid (OwnZ w3 w1.heap.size v' (headC m 0)) := by
      show World.ownsRow _ _ _ _ _ _ _
      rw [headC_zero]
      have e : ([m.cas, m.act, m.time] ++ m.data).length = 3 + m.data.length := by rw [List.length_append]; rfl
      rw [e, List.map_append]
      exact hown
    have HB3 : Hid (Below w1.heap.size w1 w3) := HB2.out.grown hgr HB2.out.size (fun g hg => (HO2.out.lt g hg).1)
    clear hown hgr hat c0 c1 c2 c3 c4 c5 c6 c7 d0 d1 d2 d3 d4 d5 d6 d7 HDA HM2 HO2 HB2
    have HM3 := Lib.hid (HM1.out.now HB3.out)
    have HB4 := Lib.hid (HB3.out.trans ((bone w3 (.cells #[.int .i64 m.res, .int .i64 m.life] 3)).mono HB3.out.size))
    have HL4 := Lib.hid (Blk.new w3 3 #[.int .i64 m.res, .int .i64 m.life])
    have HO4 : Hid (OwnZ (w3.alloc (.cells #[.int .i64 m.res, .int .i64 m.life] 3)) w1.heap.size v' (headC m 0)) := own_now HO3.out (bone w3 _)
    have HN4 : Hid (v'.ownBlock ≠ some w3.heap.size) := fun e => by have := (World.ownsRow.lt HO3.out _ e).2; omega
    obtain ⟨c0, c1, c2, c3, c4, c5, c6, c7⟩ := HM3.out.c8m
    go_upto_region 5 with fail
    obtain ⟨w4, hw4⟩ : ∃ w4, w3.alloc (.cells #[.int .i64 m.res, .int .i64 m.life] 3) = w4 := ⟨_, rfl⟩
    have HLL : Hid (w3.heap.size < w4.heap.size) := by show _ < _; rw [← hw4]; simp
    rw [hw4] at HB4 HL4 HO4 ⊢
    clear hw4 c0 c1 c2 c3 c4 c5 c6 c7 HM3
    obtain ⟨L, hL⟩ : ∃ L, w3.heap.size = L := ⟨_, rfl⟩
    rw [hL] at HL4 HN4 HLL ⊢
    clear hL
    go_loopw [3, 43] (fun cv iv wr => ∃ k : Nat, iv = .int .i64 (k : Int) ∧ k ≤ 2 ∧ Hid (OwnZ wr w1.heap.size cv (headC m k)) ∧ Hid (Below w1.heap.size w1 wr) ∧ Hid (Blk wr L 3 #[.int .i64 m.res, .int .i64 m.life]) ∧ Hid (cv.ownBlock ≠ some L) ∧ Hid (L < wr.heap.size)) (fun _ iv _ => 2 - (intOf iv).toNat)
    case atStart => exact ⟨0, rfl, by omega, HO4, HB4, HL4, HN4, HLL⟩
    case round =>
      obtain ⟨k, rfl, hk, HO, HB, HL, HN, HLS⟩ := hrel
      obtain ⟨l0, l1⟩ := HL.out.c2
      have HLEN : Hid ((headC m k).length < 10000000) := by
        show _ < _
        unfold headC
        rw [List.length_append, List.length_append, List.length_append]
        have h1 : (if 1 ≤ k ∧ m.res ≠ -1 then [m.res] else []).length ≤ 1 := by by_cases h : 1 ≤ k ∧ m.res ≠ -1 <;> simp [h]
        have h2 : (if 2 ≤ k ∧ m.life ≠ -1 then [m.life] else []).length ≤ 1 := by by_cases h : 2 ≤ k ∧ m.life ≠ -1 <;> simp [h]
        simp only [List.length_cons, List.length_nil]
        omega
      have HSTEP : Hid (∀ x rest v' w7, headC m (k + 1) = headC m k ++ rest → rest = [x] → World.ownsRow w7 w1.heap.size 3 1 v' ((headC m k).length + 1) ((headC m k).map (Value.int .i64) ++ [.int .i64 x]) → OwnZ w7 w1.heap.size v' (headC m (k + 1))) := by
        intro x rest v' w7 h1 h2 h3
        show World.ownsRow _ _ _ _ _ _ _
        rw [h1, h2, List.length_append, List.map_append]
        exact h3
      rcases (by omega : k = 0 ∨ k = 1 ∨ k = 2) with rfl | rfl | rfl
      ·
        by_cases hr : m.res = -1
        · have e1 : (m.res != -1) = false := by rw [hr]; rfl
          have hh : headC m 1 = headC m 0 := by rw [headC_res, if_pos hr, List.append_nil]
          have HH := Lib.hid hh
          clear hr hh
          go_wp2_with fail
          go_roundw
          case rel => exact ⟨1, by go_num, by omega, by rw [HH.out]; exact HO, HB, HL, HN, HLS⟩
          case measure => simp [intOf]
        · have e1 : (m.res != -1) = true := by simpa using hr
          have hh : headC m 1 = headC m 0 ++ [m.res] := by rw [headC_res, if_neg hr]
          have HH := Lib.hid hh
          clear hr hh
          go_wp2_with (at_builtin; refine wpList_push appInts rfl (.tmp 49) (.tmp 51) rfl _ [.int .i64 m.res] rfl (fun u hu => by simp at hu; subst hu; rfl) _ _ _ rfl HO.out rfl HLEN.out HB.out.size ?_; intro v' w7 hown hgr hat)
          go_roundw
          case rel =>
            refine ⟨1, by go_num, by omega, HSTEP.out _ _ _ _ HH.out rfl hown, HB.out.grown hgr HB.out.size (fun g hg => (World.ownsRow.lt HO.out g hg).1), HL.out.grown hgr (fun e => HN.out e.symm), ?_, Nat.lt_of_lt_of_le HLS.out hgr.size⟩
            rcases hat with e | e
            · show _ ≠ _; rw [e]; exact HN.out
            · show _ ≠ _; rw [e]; intro e2; injection e2 with e2; have := HLS.out; omega
          case measure => simp [intOf]
      ·
        by_cases hr : m.life = -1
        · have e1 : (m.life != -1) = false := by rw [hr]; rfl
          have hh : headC m 2 = headC m 1 := by rw [headC_life, if_pos hr, List.append_nil]
          have HH := Lib.hid hh
          clear hr hh
          go_wp2_with fail
          go_roundw
          case rel => exact ⟨2, by go_num, by omega, by rw [HH.out]; exact HO, HB, HL, HN, HLS⟩
          case measure => simp [intOf]
        · have e1 : (m.life != -1) = true := by simpa using hr
          have hh : headC m 2 = headC m 1 ++ [m.life] := by rw [headC_life, if_neg hr]
          have HH := Lib.hid hh
          clear hr hh
          go_wp2_with (at_builtin; refine wpList_push appInts rfl (.tmp 49) (.tmp 51) rfl _ [.int .i64 m.life] rfl (fun u hu => by simp at hu; subst hu; rfl) _ _ _ rfl HO.out rfl HLEN.out HB.out.size ?_; intro v' w7 hown hgr hat)
          go_roundw
          case rel =>
            refine ⟨2, by go_num, by omega, HSTEP.out _ _ _ _ HH.out rfl hown, HB.out.grown hgr HB.out.size (fun g hg => (World.ownsRow.lt HO.out g hg).1), HL.out.grown hgr (fun e => HN.out e.symm), ?_, Nat.lt_of_lt_of_le HLS.out hgr.size⟩
            rcases hat with e | e
            · show _ ≠ _; rw [e]; exact HN.out
            · show _ ≠ _; rw [e]; intro e2; injection e2 with e2; have := HLS.out; omega
          case measure => simp [intOf]
      · rw [headC_two] at HO
        have hcl : (colsB m).length < 10000000 := by rw [← headC_two]; exact HLEN.out
        have hcp : 0 < (colsB m).length := by unfold colsB; simp
        obtain ⟨g, cap, rfl, hcap, hOI⟩ := OwnI.of HO.out hcp
        rw [show ((2 : Nat) : Int) = 2 from rfl]
        have HOI := Lib.hid hOI
        have HOZ := HO
        have HBW := Lib.hid (HB1.out.trans (HB.out.mono HB1.out.size))
        obtain ⟨zs, hzs⟩ : ∃ zs, colsB m = zs := ⟨_, rfl⟩
        rw [hzs] at HOI HE hcl hcp hcap ⊢
        clear hzs hOI HO HSTEP HLEN l0 l1 HOZ HN HL HLS
        obtain ⟨w5, hw5⟩ : ∃ w5, wr = w5 := ⟨_, rfl⟩
        rw [hw5] at HOI HB HBW ⊢
        clear hw5
        go_wp2_with fail
        go_loopw [56] (fun iv wr => ∃ i : Nat, iv = .int .i64 (i : Int) ∧ i ≤ zs.length ∧ Hid (∀ (j : Nat) x, j < i → zs[j]? = some x → 0 ≤ x ∧ x < 40 ∧ x ∉ zs.take j) ∧ w5 = wr) (fun iv _ => zs.length - (intOf iv).toNat)
        case atStart => exact ⟨0, rfl, Nat.zero_le _, fun j x hj _ => absurd hj (by omega), rfl⟩
        case round =>
          obtain ⟨i, rfl, hi, HP, rfl⟩ := hrel
          by_cases hlt : i < zs.length
          · have hx : zs[i]? = some zs[i] := List.getElem?_eq_getElem hlt
            have c0 := HOI.out.cell hx
            obtain ⟨x, hxx⟩ : ∃ x, zs[i] = x := ⟨_, rfl⟩
            rw [hxx] at hx c0
            have HX := Lib.hid hx
            have HCT := Lib.hid (Tryz.slices_Contains_int g 0 i cap zs x w5 (by omega) (by omega) (fun j hj => by
              have h1 := HOI.out.cell (List.getElem?_eq_getElem hj)
              rw [Nat.zero_add, h1, List.getD_eq_getElem?_getD, List.getElem?_eq_getElem hj]; rfl))
            have HNO : Hid (¬ (0 ≤ x ∧ x < 40 ∧ x ∉ zs.take i) → mapB m = false) := fun h => by
              rw [HE.out]
              have : (zs.all (fun k => decide (0 ≤ k) && decide (k < 40)) && decide zs.Nodup) = false := by
                rw [Bool.and_eq_false_iff]
                by_cases h1 : 0 ≤ x ∧ x < 40
                · right
                  have h2 : x ∈ zs.take i := by
                    by_cases h3 : x ∈ zs.take i
                    · exact h3
                    · exact absurd ⟨h1.1, h1.2, h3⟩ h
                  exact decide_eq_false (not_nodup HX.out h2)
                · left
                  rw [List.all_eq_false]
                  refine ⟨x, List.mem_of_getElem? HX.out, ?_⟩
                  rw [Bool.and_eq_true, decide_eq_true_eq, decide_eq_true_eq]
                  exact h1
              rw [this]; rfl
            have hic : (i : Int) ≤ (cap : Int) := by omega
            have hi0 : (0 : Int) ≤ (i : Int) := by omega
            clear hx hxx
            by_cases hx0 : x < 0
            · have HF := Lib.hid (HNO.out (fun h => by omega))
              clear HNO HCT
              go_wp2_with fail
              go_ret
              exact ⟨ret_bool HF.out.symm, HBW.out⟩
            by_cases hx40 : (40 : Int) ≤ x
            · have HF := Lib.hid (HNO.out (fun h => by omega))
              clear HNO HCT
              go_wp2_with fail
              go_ret
              exact ⟨ret_bool HF.out.symm, HBW.out⟩
            obtain ⟨q, hq⟩ : ∃ q, (zs.take i).contains x = q := ⟨_, rfl⟩
            rw [hq] at HCT
            cases q with
            | true =>
              have HF := Lib.hid (HNO.out (fun h => h.2.2 (by simpa using hq)))
              clear HNO hq
              go_wp2_with fail
              (with_reducible refine HCT.out.mono ?_)
              rintro _ w6 ⟨rfl, rfl⟩
              go_wp2_with fail
              go_ret
              exact ⟨ret_bool HF.out.symm, HBW.out⟩
            | false =>
              have HOK : Hid (0 ≤ x ∧ x < 40 ∧ x ∉ zs.take i) := ⟨by omega, by omega, by simpa using hq⟩
              clear HNO hq
              go_wp2_with fail
              (with_reducible refine HCT.out.mono ?_)
              rintro _ w6 ⟨rfl, rfl⟩
              go_wp2_with fail
              go_roundw
              case rel => exact ⟨i + 1, by go_num, by omega, fun j y hj hy => by
                by_cases e : j = i
                · subst e; rw [HX.out] at hy; injection hy with hy; subst hy; exact HOK.out
                · exact HP.out j y (by omega) hy, trivial⟩
              case measure => simp [intOf]; omega
          · have HF : Hid (mapB m = m.kinds.all kindB) := by
              show _ = _
              have h1 : zs.all (fun k => decide (0 ≤ k) && decide (k < 40)) = true := by
                rw [List.all_eq_true]
                intro x hx
                obtain ⟨j, hj, rfl⟩ := List.mem_iff_getElem.1 hx
                have := HP.out j zs[j] (by omega) (List.getElem?_eq_getElem hj)
                rw [decide_eq_true this.1, decide_eq_true this.2.1]; rfl
              have h2 : zs.Nodup := nodup_of zs fun j x hx => (HP.out j x (by have := (List.getElem?_eq_some_iff.1 hx).1; omega) hx).2.2
              rw [HE.out, h1, decide_eq_true h2]; rfl
            have HKK := Lib.hid (kinds_any _ m.kinds w5 (SlI.below HK1.out HB.out HB.out.size))
            obtain ⟨q, hq⟩ : ∃ q, m.kinds.all kindB = q := ⟨_, rfl⟩
            rw [hq] at HF HKK
            obtain ⟨c0, c1, c2, c3, c4, c5, c6, c7⟩ := (HM1.out.now HB.out).c8m
            clear hq
            go_wp2_with fail
            (with_reducible refine HKK.out.mono ?_)
            rintro _ w6 ⟨rfl, hb6⟩
            have HB6 := Lib.hid (bthen HBW.out hb6)
            clear hb6
            go_wp2_with fail
            go_ret
            exact ⟨ret_bool (by rw [HF.out]; first | done | rw [Bool.not_not] | simp), HB6.out⟩
end Go.Proofs.YtoalecalahkblaaGreatDoor

set_option linter.all false
namespace Go.Proofs.YtoalecalahkblaaGreatDoor
open Go.RowKit
theorem neg_any (k : Int) (w : World) : Calls Tryz.prog 122 #[.int .i64 k] w fun e w' => e = .returned (.bool (decide (k < 0))) ∧ w = w' := by
  go_enter Tryz.func122, Tryz.ntmps122
  go_wp2_with fail
  go_ret
  exact ⟨rfl, rfl⟩
theorem enters_neg : ∀ args w, (callFunc 122 args).run Tryz.prog w = .ok (.enter 122 args) w := enters_of Tryz.func122 (by kernel_rfl) rfl
theorem fields_filter (m : Mp) : ([m.cas, m.act, m.res, m.life, m.time].filter fun x => !decide (x < 0)) = fieldsB m := by
  unfold fieldsB
  congr 1
  funext k
  by_cases h : k < 0
  · rw [decide_eq_true h, decide_eq_false (by omega)]; rfl
  · rw [decide_eq_false h, decide_eq_true (by omega)]; rfl
theorem fieldsB_len (m : Mp) : (fieldsB m).length ≤ 5 := by
  unfold fieldsB
  exact Nat.le_trans (List.length_filter_le _ _) (Nat.le_refl _)
theorem delete_any (m : Mp) (hf : FitM m) (w : World) :
    Calls Tryz.prog 121 #[.slice (some ⟨w.heap.size, 0, none⟩) 5 5, .func (.func 122) #[] #[]] (w.alloc (.cells #[.int .i64 m.cas, .int .i64 m.act, .int .i64 m.res, .int .i64 m.life, .int .i64 m.time] 3))
      fun e w' => e = .returned (.slice (some ⟨w.heap.size, 0, none⟩) (fieldsB m).length 5) ∧ SlI (Lt w'.heap.size) w' (.slice (some ⟨w.heap.size, 0, none⟩) (fieldsB m).length 5) (fieldsB m) ∧ Below w.heap.size w w' := by
  have hB := Blk.new w 3 #[.int .i64 m.cas, .int .i64 m.act, .int .i64 m.res, .int .i64 m.life, .int .i64 m.time]
  have hb := bone w (.cells #[.int .i64 m.cas, .int .i64 m.act, .int .i64 m.res, .int .i64 m.life, .int .i64 m.time] 3)
  have hsz : w.heap.size < (w.alloc (.cells #[.int .i64 m.cas, .int .i64 m.act, .int .i64 m.res, .int .i64 m.life, .int .i64 m.time] 3)).heap.size := by simp
  obtain ⟨w1, hw1⟩ : ∃ w1, w.alloc (.cells #[.int .i64 m.cas, .int .i64 m.act, .int .i64 m.res, .int .i64 m.life, .int .i64 m.time] 3) = w1 := ⟨_, rfl⟩
  rw [hw1] at hB hb hsz ⊢
  clear hw1
  obtain ⟨g, hg⟩ : ∃ g, w.heap.size = g := ⟨_, rfl⟩
  have hgb : Below g w w1 := by rw [← hg]; exact hb
  rw [hg] at hB hsz ⊢
  have hpred : Go.Proofs.PredAt Tryz.prog 122 #[] (Value.int .i64) (fun k => decide (k < 0)) w1 := fun W x _ => (neg_any x W).mono fun e w' ⟨h1, h2⟩ => ⟨h1, 0, h2.symm⟩
  have hover : Go.Proofs.PredOver Tryz.prog 122 #[] (Value.int .i64) (fun k => decide (k < 0)) g 0 5 w1 := fun n os dk x _ => (neg_any x _).mono fun e w' ⟨h1, h2⟩ => ⟨h1, 0, h2.symm⟩
  have hH : Go.Sort.Holds (Value.int .i64) w1 g 0 #[m.cas, m.act, m.res, m.life, m.time] := by
    intro j hj
    refine ⟨?_, hB.frozen _⟩
    have hc := hB.cell (0 + j)
    rw [hc]
    match j, hj with
    | 0, _ => rfl
    | 1, _ => rfl
    | 2, _ => rfl
    | 3, _ => rfl
    | 4, _ => rfl
  have h := Tryz.slices_DeleteFunc (Value.int .i64) (fun _ => rfl) (fun k => decide (k < 0)) 122 #[] enters_neg 0 Tryz.zeroValue3 g 0 5 #[m.cas, m.act, m.res, m.life, m.time] w1 hpred hover hH (by simp) (by simp)
  have hfl : (#[m.cas, m.act, m.res, m.life, m.time].toList.filter fun x => !decide (x < 0)) = fieldsB m := fields_filter m
  rw [hfl] at h
  have hlen := fieldsB_len m
  have hfit : ∀ x ∈ fieldsB m, Fit x := fun x hx => by
    have hx := (List.mem_filter.1 hx).1
    simp only [List.mem_cons, List.not_mem_nil, or_false] at hx
    rcases hx with rfl | rfl | rfl | rfl | rfl
    · exact hf.cas
    · exact hf.act
    · exact hf.res
    · exact hf.life
    · exact hf.time
  refine Calls.mono h fun e w' ⟨he, q, hw⟩ => ?_
  generalize fieldsB m = fs at *
  obtain ⟨d, hd⟩ : ∃ d, (fs ++ List.replicate (#[m.cas, m.act, m.res, m.life, m.time].size - fs.length) 0).toArray = d := ⟨_, rfl⟩
  have hds : d.size = 5 := by
    rw [← hd]
    simp
    omega
  have hdg : ∀ i x, fs[i]? = some x → d[i]! = x := fun i x hx => by
    have hi := (List.getElem?_eq_some_iff.1 hx).1
    rw [getElem!_pos d i (by omega)]
    have : d[i]'(by omega) = (fs ++ List.replicate (#[m.cas, m.act, m.res, m.life, m.time].size - fs.length) 0)[i]'(by simp; omega) := by
      subst hd; simp
    rw [this, List.getElem_append_left hi]
    exact (List.getElem?_eq_some_iff.1 hx).2
  rw [hd] at hw
  have hsw : w'.heap.size = w1.heap.size := by rw [hw]; simp
  refine ⟨he, ⟨some ⟨g, 0, none⟩, 5, rfl, hlen, by unfold maxLen; omega, fun i x hx => ⟨g, 0, [.int .i64 x], rfl, by show g < _; omega, rfl, ⟨rfl, hfit x (List.mem_of_getElem? hx)⟩, fun j u hu => ?_⟩⟩, ?_⟩
  · match j, hu with
    | 0, hu =>
      injection hu with hu
      subst hu
      have hi := (List.getElem?_eq_some_iff.1 hx).1
      have hc := Go.Sort.cell?_putRow (Value.int .i64) (Go.Sort.ahead w1 q) g 0 #[m.cas, m.act, m.res, m.life, m.time] d hH (by rw [hds]; rfl) i (by omega)
      rw [hw, show 0 + i * 1 + 0 = 0 + i by omega, hc, hdg i x hx]
    | j + 1, hu => simp at hu
  · refine hgb.trans ?_
    rw [hw]
    refine ⟨rfl, rfl, rfl, by simp, fun j hj => ?_⟩
    have : g ≠ j := by omega
    simp [Go.Sort.putRow, Go.Sort.mapBlock, Go.Sort.ahead, Array.getElem?_modify, this]
set_option maxHeartbeats 2000000 in
theorem fields_any (u : Value) (m : Mp) (w : World) (h : IsMp (Lt w.heap.size) w u m) :
    Calls Tryz.prog 75 #[u] w fun e w' => ∃ v, e = .returned v ∧ SlI (Lt w'.heap.size) w' v (fieldsB m) ∧ Below w.heap.size w w' := by
  obtain ⟨dv, kv, rfl, hfm, hd, hk⟩ := h
  have HD := Lib.hid (delete_any m hfm)
  obtain ⟨Ad, cd, rfl, _, _, hd⟩ := hd.open_
  obtain ⟨Ak, ck, rfl, _, _, hk⟩ := hk.open_
  obtain ⟨z, hz⟩ : ∃ z, (m.sep.toNat : Int) = z := ⟨_, rfl⟩
  unfold mpV
  rw [hz]
  clear hfm hd hk hz
  have HB1 := Lib.hid (bone w (.cells #[.int .i64 m.cas, .int .i64 m.act, .int .i64 m.res, .int .i64 m.life, .int .i64 m.time, .slice Ad m.data.length cd, .slice Ak m.kinds.length ck, .int .u8 z] 33))
  have HM1 := Lib.hid (Blk.new w 33 #[.int .i64 m.cas, .int .i64 m.act, .int .i64 m.res, .int .i64 m.life, .int .i64 m.time, .slice Ad m.data.length cd, .slice Ak m.kinds.length ck, .int .u8 z])
  go_enter Tryz.func75, Tryz.ntmps75
  go_upto_region 1 with fail
  obtain ⟨w1, hw1⟩ : ∃ w1, w.alloc (.cells #[.int .i64 m.cas, .int .i64 m.act, .int .i64 m.res, .int .i64 m.life, .int .i64 m.time, .slice Ad m.data.length cd, .slice Ak m.kinds.length ck, .int .u8 z] 33) = w1 := ⟨_, rfl⟩
  rw [hw1] at HB1 HM1 ⊢
  clear hw1
  obtain ⟨c0, c1, c2, c3, c4, c5, c6, c7⟩ := HM1.out.c8m
  have HDW := Lib.hid (HD.out w1)
  clear HD
  go_wp2_with fail
  (with_reducible refine HDW.out.mono ?_)
  rintro _ w2 ⟨rfl, hs, hb⟩
  have HS := Lib.hid hs
  have HB2 := Lib.hid (bthen HB1.out hb)
  clear hs hb
  go_wp2_with fail
  go_ret
  exact ⟨_, rfl, HS.out, HB2.out⟩
end Go.Proofs.YtoalecalahkblaaGreatDoor

set_option linter.all false
namespace Go.Proofs.YtoalecalahkblaaGreatDoor
open Go.RowKit
set_option maxHeartbeats 4000000 in
set_option maxRecDepth 100000 in
theorem header_none (r : List Bt) (rv u : Value) (m : Mp) (w : World) (hr : SlP (Lt w.heap.size) w rv r) (h : IsMp (Lt w.heap.size) w u m) (hd0 : m.data = []) (hcol : ∀ k ∈ fieldsB m, k < (r.length : Int)) :
    Calls Tryz.prog 53 #[rv, u] w fun e w' => e = .returned (.tuple #[.agg #[.int .i64 0, .int .i64 0], .int .i64 0]) ∧ Below w.heap.size w w' := by
  obtain ⟨Ar, cr, rfl, _, _, hr⟩ := hr.open_
  have HF := Lib.hid (fun W hW => fields_any u m W hW)
  have HM := Lib.hid h
  have HCOL := Lib.hid hcol
  obtain ⟨dv, kv, rfl, hfm, hd, hk⟩ := h
  obtain ⟨Ad, cd, rfl, _, _, hd⟩ := hd.open_
  obtain ⟨Ak, ck, rfl, _, _, hk⟩ := hk.open_
  have hdl : m.data.length = 0 := by rw [hd0]; rfl
  rw [hdl] at HM HF ⊢
  obtain ⟨z, hz⟩ : ∃ z, (m.sep.toNat : Int) = z := ⟨_, rfl⟩
  unfold mpV at HM HF ⊢
  rw [hz] at HM HF ⊢
  clear hfm hd hk hz hdl hd0 hcol hr
  -- the boxes
  have hb1 := bone w (.cells #[.slice Ar r.length cr] 51)
  have hB1 := Blk.new w 51 #[.slice Ar r.length cr]
  have hs1 : (w.alloc (.cells #[.slice Ar r.length cr] 51)).heap.size = w.heap.size + 1 := by simp
  obtain ⟨w1, hw1⟩ : ∃ w1, w.alloc (.cells #[.slice Ar r.length cr] 51) = w1 := ⟨_, rfl⟩
  rw [hw1] at hb1 hB1 hs1
  have hb2 := bone w1 (.cells #[.int .i64 m.cas, .int .i64 m.act, .int .i64 m.res, .int .i64 m.life, .int .i64 m.time, .slice Ad 0 cd, .slice Ak m.kinds.length ck, .int .u8 z] 33)
  have hB2 := Blk.new w1 33 #[.int .i64 m.cas, .int .i64 m.act, .int .i64 m.res, .int .i64 m.life, .int .i64 m.time, .slice Ad 0 cd, .slice Ak m.kinds.length ck, .int .u8 z]
  have hs2 : (w1.alloc (.cells #[.int .i64 m.cas, .int .i64 m.act, .int .i64 m.res, .int .i64 m.life, .int .i64 m.time, .slice Ad 0 cd, .slice Ak m.kinds.length ck, .int .u8 z] 33)).heap.size = w.heap.size + 2 := by simp [hs1]
  rw [hs1] at hB2
  obtain ⟨w2, hw2⟩ : ∃ w2, w1.alloc (.cells #[.int .i64 m.cas, .int .i64 m.act, .int .i64 m.res, .int .i64 m.life, .int .i64 m.time, .slice Ad 0 cd, .slice Ak m.kinds.length ck, .int .u8 z] 33) = w2 := ⟨_, rfl⟩
  rw [hw2] at hb2 hB2 hs2
  have hb3 := bone w2 (.cells #[.int .i64 0, .int .i64 0] 40)
  have hB3 := Blk.new w2 40 #[.int .i64 0, .int .i64 0]
  rw [hs2] at hB3
  obtain ⟨w3, hw3⟩ : ∃ w3, w2.alloc (.cells #[.int .i64 0, .int .i64 0] 40) = w3 := ⟨_, rfl⟩
  have HB3 : Hid (Below w.heap.size w w3) := by rw [← hw3]; exact bthen (bthen hb1 hb2) hb3
  have HR3 : Hid (Blk w3 w.heap.size 51 #[.slice Ar r.length cr]) := by rw [← hw3]; exact (hB1.now hb2).now hb3
  have HM3 : Hid (Blk w3 (w.heap.size + 1) 33 #[.int .i64 m.cas, .int .i64 m.act, .int .i64 m.res, .int .i64 m.life, .int .i64 m.time, .slice Ad 0 cd, .slice Ak m.kinds.length ck, .int .u8 z]) := by rw [← hw3]; exact hB2.now hb3
  have HP3 : Hid (Blk w3 (w.heap.size + 2) 40 #[.int .i64 0, .int .i64 0]) := by rw [← hw3]; exact hB3
  have HW : Hid (((w.alloc (.cells #[.slice Ar r.length cr] 51)).alloc (.cells #[.int .i64 m.cas, .int .i64 m.act, .int .i64 m.res, .int .i64 m.life, .int .i64 m.time, .slice Ad 0 cd, .slice Ak m.kinds.length ck, .int .u8 z] 33)).alloc (.cells #[.int .i64 0, .int .i64 0] 40) = w3) := by show _ = _; rw [hw1, hw2, hw3]
  clear hb1 hB1 hs1 hw1 hb2 hB2 hs2 hw2 hb3 hB3 hw3
  go_enter Tryz.func53, Tryz.ntmps53
  go_upto_region 1 with fail
  rw [HW.out]
  clear HW
  have HFW := Lib.hid (HF.out w3 (HM.out.now HB3.out))
  obtain ⟨c0, c1, c2, c3, c4, c5, c6, c7⟩ := HM3.out.c8m
  go_wp2_with fail
  (with_reducible refine HFW.out.mono ?_)
  rintro _ w4 ⟨v, rfl, hs, hb⟩
  obtain ⟨Af, cf, rfl, _, _, hs⟩ := hs.open_
  have HS4 := Lib.hid hs
  have HB4 := Lib.hid (bthen HB3.out hb)
  have HR4 := Lib.hid (HR3.out.now hb)
  have HM4 := Lib.hid (HM3.out.now hb)
  have HP4 := Lib.hid (HP3.out.now hb)
  clear hs hb HFW HF c0 c1 c2 c3 c4 c5 c6 c7 HR3 HM3 HP3 HB3
  generalize fieldsB m = fs at *
  have r0 := HR4.out.c1
  go_wp2_with fail
  go_loopw [14] (fun iv wr => ∃ k : Nat, iv = .int .i64 (k : Int) ∧ k ≤ fs.length ∧ w4 = wr) (fun iv _ => fs.length - (intOf iv).toNat)
  case atStart => exact ⟨0, rfl, Nat.zero_le _, rfl⟩
  case round =>
    obtain ⟨k, rfl, hk, rfl⟩ := hrel
    by_cases hlt : k < fs.length
    · obtain ⟨b, o, x, rfl, hD, hx, _, d0⟩ := SlI.at_ HS4.out hlt
      have hxl := HCOL.out x (List.mem_of_getElem? hx)
      have hxl' : ¬ (r.length : Int) ≤ x := by omega
      clear hx hxl
      go_wp2_with fail
      go_roundw
      case rel => exact ⟨k + 1, by go_num, by omega, trivial⟩
      case measure => simp [intOf]; omega
    · obtain ⟨c0, c1, c2, c3, c4, c5, c6, c7⟩ := HM4.out.c8m
      obtain ⟨p0, p1⟩ := HP4.out.c2
      have f0 := HP4.out.frozen 0
      have f1 := HP4.out.frozen 1
      go_wp2_with fail
      go_loopw [29] (fun iv wr => iv = .int .i64 0 ∧ w4 = wr) (fun _ _ => 0)
      case atStart => exact ⟨rfl, rfl⟩
      case round =>
        obtain ⟨rfl, rfl⟩ := hrel
        go_wp2_with fail
        have hz := HP4.out.set_ 0 (.int .i64 0)
        have hz2 := hz.set_ 1 (.int .i64 0)
        have hbz := (HB4.out.setCell (p := ⟨w.heap.size + 2, 0, none⟩) (show w.heap.size ≤ w.heap.size + 2 by omega) (.int .i64 0)).setCell (p := ⟨w.heap.size + 2, 1, none⟩) (show w.heap.size ≤ w.heap.size + 2 by omega) (.int .i64 0)
        have hz3 : Blk ((w4.setCell ⟨w.heap.size + 2, 0, none⟩ (.int .i64 0)).setCell ⟨w.heap.size + 2, 1, none⟩ (.int .i64 0)) (w.heap.size + 2) 40 #[.int .i64 0, .int .i64 0] := hz2
        obtain ⟨r0, r1⟩ := hz3.c2
        generalize (w4.setCell ⟨w.heap.size + 2, 0, none⟩ (.int .i64 0)).setCell ⟨w.heap.size + 2, 1, none⟩ (.int .i64 0) = wz at *
        refine bodyPost_ret (v := .tuple #[.agg #[.int .i64 0, .int .i64 0], .int .i64 0]) (by simp [results, Tryz.results53, go_sem, r0, r1]) rfl ?_
        exact ⟨rfl, hbz⟩
end Go.Proofs.YtoalecalahkblaaGreatDoor

set_option linter.all false
namespace Go.Proofs.YtoalecalahkblaaGreatDoor
open Go.RowKit
theorem var_now {P : Program} {w w' : World} {n : String} {cs : Array Value} (h : w.var? P n = some cs) (hb : Below w.heap.size w w') : w'.var? P n = some cs := by
  unfold World.var? at h ⊢
  obtain ⟨g, hg, h1⟩ := Option.bind_eq_some_iff.1 h
  rw [hg]
  show (match w'.heap[g]? with | some (.cells cs _ _) => some cs | _ => none) = some cs
  have hlt : g < w.heap.size := by
    rcases Nat.lt_or_ge g w.heap.size with h' | h'
    · exact h'
    · rw [Array.getElem?_eq_none h'] at h1; cases h1
  rw [hb.block g hlt]
  exact h1
structure AmbP (w : World) : Prop where
  tab : Lib.TabIs Tryz.prog w "internal/strconv.uint64pow10" .u64 Lib.pow10Tab
  syn : ∃ tp p, w.var? Tryz.prog "strconv.ErrSyntax" = some #[.iface tp p]
  rng : ∃ tp p, w.var? Tryz.prog "strconv.ErrRange" = some #[.iface tp p]
  mx : ∃ m, w.cell? ⟨0, 0, none⟩ = some (.int .i64 m)
theorem AmbP.now {w w' : World} (h : AmbP w) (hb : Below w.heap.size w w') : AmbP w' := by
  obtain ⟨h1, ⟨t, p, h2⟩, ⟨t', p', h3⟩, ⟨m, h4⟩⟩ := h
  exact ⟨var_now h1 hb, ⟨t, p, var_now h2 hb⟩, ⟨t', p', var_now h3 hb⟩, ⟨m, (World.cell?_of_block (hb.block _ (World.block_lt_of_cell? _ _ h4))).trans h4⟩⟩
def itoaS (n : Int) : ByteArray := ⟨(Lib.itoa n).toArray⟩
theorem bgrow (w : World) (k : Nat) (os : Array Obj) : Below w.heap.size w (Go.Sort.grow (w.drewN k) os) := by
  refine ⟨rfl, rfl, rfl, ?_, fun b hb => ?_⟩
  · show w.heap.size ≤ (w.heap ++ os).size
    rw [Array.size_append]; omega
  · show (w.heap ++ os)[b]? = w.heap[b]?
    rw [Array.getElem?_append_left hb]
theorem itoa_any (n : Int) (w : World) (hf : Fit n) (ha : AmbP w) : Calls Tryz.prog 131 #[.int .i64 n] w fun e w' => e = .returned (.string (itoaS n)) ∧ Below w.heap.size w w' :=
  (Tryz.strconv_Itoa n hf.1 hf.2 _ ha.tab).mono fun e w' ⟨he, kk, os, hw⟩ => ⟨he, by rw [hw]; exact bgrow w kk os⟩
def okOf : Lib.NumEnd Int → Option Int
  | .ok n => some n
  | _ => none
theorem below_of_bytes {w w2 : World} {e : TypeId} {t : ByteArray} (h : w2 = Lib.bytesWorld w e t) : Below w.heap.size w w2 := by rw [h]; exact Lib.bytesWorld_below _ _ _
theorem below_of_bytes' {w w2 : World} {e : TypeId} (h : w2 = w ∨ ∃ t, w2 = Lib.bytesWorld w e t) : Below w.heap.size w w2 := by
  rcases h with h | ⟨t, h⟩
  · rw [h]; exact Below.refl _ _
  · exact below_of_bytes h
def AtoiPost (s : ByteArray) (w : World) (e : Ending) (w' : World) : Prop :=
  ((∃ n, okOf (Lib.atoiAll s.data.toList) = some n ∧ Fit n ∧ e = .returned (.tuple #[.int .i64 n, .nilIface])) ∨
    (okOf (Lib.atoiAll s.data.toList) = none ∧ ∃ z N, e = .returned (.tuple #[.int .i64 z, .iface 209 (.pointer (some ⟨N, 0, none⟩))]))) ∧ Below w.heap.size w w'
theorem atoi_call (s : ByteArray) (w : World) (hs : s.size ≤ 1000000) (ha : AmbP w) : Calls Tryz.prog 142 #[.string s] w (AtoiPost s w) := by
  cases h : Lib.atoiAll s.data.toList
  · rename_i n
    refine (Tryz.strconv_Atoi_ok s (by omega) n h w).mono ?_
    rintro e w' ⟨rfl, hw⟩
    exact ⟨.inl ⟨n, by rw [h]; rfl, Lib.atoiAll_bounds h, rfl⟩, below_of_bytes' hw⟩
  · obtain ⟨tp, p, hv⟩ := ha.syn
    refine (Any.strconv_Atoi_syntax_var Tryz.laysC172 s (by omega) h tp p w hv).mono ?_
    rintro e w' ⟨N, rfl, _, _, hb⟩
    exact ⟨.inr ⟨by rw [h]; rfl, _, N, rfl⟩, hb⟩
  · obtain ⟨tp, p, hv⟩ := ha.rng
    refine (Tryz.strconv_Atoi_range_var s (by omega) h tp p w hv).mono ?_
    rintro e w' ⟨N, rfl, _, _, hb⟩
    exact ⟨.inr ⟨by rw [h]; rfl, _, N, rfl⟩, hb⟩
end Go.Proofs.YtoalecalahkblaaGreatDoor

set_option linter.all false
namespace Go.Proofs.YtoalecalahkblaaGreatDoor
open Go.RowKit
def natE (s : Bt) : Int × Int :=
  if 15 < s.length then (0, 3)
  else match okOf (Lib.atoiAll s) with
    | none => (0, 3)
    | some n => if n < 0 ∨ Lib.itoa n ≠ s then (0, 3) else if 1099511627776 < n then (0, 2) else (n, 0)
def RetNat (p : Int × Int) (w : World) (e : Ending) (w' : World) : Prop := e = .returned (.tuple #[.int .i64 p.1, .int .i64 p.2]) ∧ Below w.heap.size w w'
theorem natE_fit (s : Bt) : 0 ≤ (natE s).1 ∧ (natE s).1 ≤ 1099511627776 := by
  unfold natE
  split
  · exact ⟨Int.le_refl _, by simp only; omega⟩
  · split
    · exact ⟨Int.le_refl _, by simp only; omega⟩
    · split
      · exact ⟨Int.le_refl _, by simp only; omega⟩
      · split
        · exact ⟨Int.le_refl _, by simp only; omega⟩
        · simp only; omega
theorem itoa_beq (n : Int) (s : ByteArray) : ((itoaS n).toList == s.toList) = decide (Lib.itoa n = s.data.toList) := by
  have h1 : (itoaS n).toList = Lib.itoa n := by rw [Lib.toList_data]; rfl
  have h2 : s.toList = s.data.toList := Lib.toList_data s
  rw [h1, h2]
  by_cases h : Lib.itoa n = s.data.toList
  · rw [decide_eq_true h, h]; exact beq_self_eq_true _
  · rw [decide_eq_false h]; exact beq_false_of_ne h
set_option maxHeartbeats 1000000 in
theorem natural_any (s : ByteArray) (w : World) (hs : s.size ≤ 1000000) (ha : AmbP w) : Calls Tryz.prog 99 #[.string s] w (RetNat (natE s.data.toList) w) := by
  have hlen : s.data.toList.length = s.size := by simp
  by_cases h15 : 15 < s.size
  · have i1 : (15 : Int) < (s.size : Int) := by omega
    have HE : Hid (natE s.data.toList = (0, 3)) := by show _ = _; unfold natE; rw [if_pos (by omega)]
    clear hlen h15
    go_enter Tryz.func99, Tryz.ntmps99
    go_wp2_with fail
    go_ret2
    show RetNat _ _ _ _
    rw [HE.out]
    exact ⟨rfl, Below.refl _ _⟩
  have i1 : ¬ (15 : Int) < (s.size : Int) := by omega
  have HE : Hid (natE s.data.toList = match okOf (Lib.atoiAll s.data.toList) with
    | none => (0, 3)
    | some n => if n < 0 ∨ Lib.itoa n ≠ s.data.toList then (0, 3) else if 1099511627776 < n then (0, 2) else (n, 0)) := by
    show _ = _
    unfold natE
    rw [if_neg (by omega)]
  clear hlen h15
  go_enter Tryz.func99, Tryz.ntmps99
  go_wp2_with fail
  refine (atoi_call s _ hs ha).mono ?_
  rintro e w1 ⟨h, hb1⟩
  have ha1 := ha.now hb1
  rcases h with ⟨n, hn, hf, rfl⟩ | ⟨hn, z, N, rfl⟩
  · rw [hn] at HE
    have HE : Hid (natE s.data.toList = if n < 0 ∨ Lib.itoa n ≠ s.data.toList then (0, 3) else if 1099511627776 < n then (0, 2) else (n, 0)) := HE
    by_cases h0 : n < 0
    · have HN : Hid (natE s.data.toList = (0, 3)) := by show _ = _; rw [HE.out, if_pos (.inl h0)]
      clear hn HE
      go_wp2_with fail
      go_ret2
      show RetNat _ _ _ _
      rw [HN.out]
      exact ⟨rfl, hb1⟩
    · have HI := Lib.hid (itoa_any n _ hf ha1)
      have HF := Lib.hid hf
      have hq := itoa_beq n s
      obtain ⟨q, hqq⟩ : ∃ q, ((itoaS n).toList == s.toList) = q := ⟨_, rfl⟩
      rw [hqq] at hq
      have HQ := Lib.hid hq
      have e1 : ((itoaS n).toList != s.toList) = !q := by show (!((itoaS n).toList == s.toList)) = _; rw [hqq]
      clear hn hf hq
      cases q with
      | false =>
        have HN : Hid (natE s.data.toList = (0, 3)) := by show _ = _; rw [HE.out, if_pos (.inr (of_decide_eq_false HQ.out.symm))]
        clear HE
        go_wp2_with fail
        refine HI.out.mono ?_
        rintro e w2 ⟨rfl, hb2⟩
        clear HI
        go_wp2_with fail
        go_ret2
        show RetNat _ _ _ _
        rw [HN.out]
        exact ⟨rfl, bthen hb1 hb2⟩
      | true =>
        have HE2 : Hid (natE s.data.toList = if 1099511627776 < n then (0, 2) else (n, 0)) := by show _ = _; rw [HE.out, if_neg (by rintro (h | h); exact h0 h; exact h (of_decide_eq_true HQ.out.symm))]
        clear HE
        by_cases hbig : 1099511627776 < n
        · have HN : Hid (natE s.data.toList = (0, 2)) := by show _ = _; rw [HE2.out, if_pos hbig]
          go_wp2_with fail
          refine HI.out.mono ?_
          rintro e w2 ⟨rfl, hb2⟩
          clear HI
          go_wp2_with fail
          go_ret2
          show RetNat _ _ _ _
          rw [HN.out]
          exact ⟨rfl, bthen hb1 hb2⟩
        · have HN : Hid (natE s.data.toList = (n, 0)) := by show _ = _; rw [HE2.out, if_neg hbig]
          go_wp2_with fail
          refine HI.out.mono ?_
          rintro e w2 ⟨rfl, hb2⟩
          clear HI
          go_wp2_with fail
          go_ret2
          show RetNat _ _ _ _
          rw [HN.out]
          exact ⟨rfl, bthen hb1 hb2⟩
  · rw [hn] at HE
    have HN : Hid (natE s.data.toList = (0, 3)) := HE
    clear hn HE
    go_wp2_with fail
    go_ret2
    show RetNat _ _ _ _
    rw [HN.out]
    exact ⟨rfl, hb1⟩
end Go.Proofs.YtoalecalahkblaaGreatDoor

set_option linter.all false
namespace Go.Proofs
open Go.Shelf
def Tryz.sortE_ren : Go.Shelf.Ren := ⟨fun | 6 => 101 | 15 => 146 | 14 => 145 | 28 => 177 | 29 => 178 | 20 => 169 | 21 => 170 | 22 => 171 | 23 => 172 | 24 => 173 | 25 => 174 | 26 => 175 | 27 => 176 | 46 => 209 | 47 => 210 | 48 => 211 | 49 => 212 | 50 => 213 | 57 => 229 | n => n, fun | 22 => 67 | 24 => 123 | 25 => 141 | 3 => 3 | 39 => 172 | 0 => 0 | 53 => 190 | 55 => 192 | 4 => 4 | 46 => 183 | 45 => 182 | 50 => 187 | 5 => 5 | 9 => 9 | 66 => 215 | 70 => 219 | 76 => 236 | 77 => 148 | n => n, fun | n => n⟩
theorem Tryz.sortE : Go.Proofs.SlLaysF0.n6 Tryz.prog Tryz.sortE_ren := {
  mixed := by kernel_rfl
  f6 := ⟨Tryz.f101.name, by decide, Tryz.func101.trans (congrArg some (by kernel_rfl))⟩
  f14 := ⟨Tryz.f145.name, by decide, Tryz.func145.trans (congrArg some (by kernel_rfl))⟩
  f15 := Tryz.func146.trans (congrArg some (by kernel_rfl))
  f20 := ⟨Tryz.f169.name, by decide, Tryz.func169.trans (congrArg some (by kernel_rfl))⟩
  f21 := ⟨Tryz.f170.name, by decide, Tryz.func170.trans (congrArg some (by kernel_rfl))⟩
  f22 := ⟨Tryz.f171.name, by decide, Tryz.func171.trans (congrArg some (by kernel_rfl))⟩
  f23 := ⟨Tryz.f172.name, by decide, Tryz.func172.trans (congrArg some (by kernel_rfl))⟩
  f24 := ⟨Tryz.f173.name, by decide, Tryz.func173.trans (congrArg some (by kernel_rfl))⟩
  f25 := ⟨Tryz.f174.name, by decide, Tryz.func174.trans (congrArg some (by kernel_rfl))⟩
  f26 := ⟨Tryz.f175.name, by decide, Tryz.func175.trans (congrArg some (by kernel_rfl))⟩
  f27 := ⟨Tryz.f176.name, by decide, Tryz.func176.trans (congrArg some (by kernel_rfl))⟩
  f28 := Tryz.func177.trans (congrArg some (by kernel_rfl))
  f29 := Tryz.func178.trans (congrArg some (by kernel_rfl))
  f46 := ⟨Tryz.f209.name, by decide, Tryz.func209.trans (congrArg some (by kernel_rfl))⟩
  f47 := Tryz.func210.trans (congrArg some (by kernel_rfl))
  f48 := Tryz.func211.trans (congrArg some (by kernel_rfl))
  f49 := ⟨Tryz.f212.name, by decide, Tryz.func212.trans (congrArg some (by kernel_rfl))⟩
  f50 := ⟨Tryz.f213.name, by decide, Tryz.func213.trans (congrArg some (by kernel_rfl))⟩
  f57 := ⟨Tryz.f229.name, by decide, Tryz.func229.trans (congrArg some (by kernel_rfl))⟩
  t0 := Tryz.underlying0
  a0 := Tryz.isAgg0
  z0 := Tryz.sizeOf0
  v0 := Tryz.zeroValue0
  t3 := Tryz.underlying3
  a3 := Tryz.isAgg3
  z3 := Tryz.sizeOf3
  v3 := Tryz.zeroValue3
  t4 := Tryz.underlying4
  a4 := Tryz.isAgg4
  z4 := Tryz.sizeOf4
  v4 := Tryz.zeroValue4
  t5 := Tryz.underlying5
  a5 := Tryz.isAgg5
  z5 := Tryz.sizeOf5
  v5 := Tryz.zeroValue5
  t9 := Tryz.underlying9
  a9 := Tryz.isAgg9
  z9 := Tryz.sizeOf9
  v9 := Tryz.zeroValue9
  t22 := Tryz.underlying67
  a22 := Tryz.isAgg67
  z22 := Tryz.sizeOf67
  v22 := Tryz.zeroValue67
  t25 := Tryz.underlying141
  a25 := Tryz.isAgg141
  z25 := Tryz.sizeOf141
  v25 := Tryz.zeroValue141
  t39 := Tryz.underlying172
  a39 := Tryz.isAgg172
  z39 := Tryz.sizeOf172
  v39 := Tryz.zeroValue172
  t45 := Tryz.underlying182
  a45 := Tryz.isAgg182
  z45 := Tryz.sizeOf182
  v45 := Tryz.zeroValue182
  t46 := Tryz.underlying183
  a46 := Tryz.isAgg183
  z46 := Tryz.sizeOf183
  v46 := Tryz.zeroValue183
  t50 := Tryz.underlying187
  a50 := Tryz.isAgg187
  z50 := Tryz.sizeOf187
  v50 := Tryz.zeroValue187
  t53 := Tryz.underlying190
  a53 := Tryz.isAgg190
  z53 := Tryz.sizeOf190
  v53 := Tryz.zeroValue190
  t55 := Tryz.underlying192
  a55 := Tryz.isAgg192
  z55 := Tryz.sizeOf192
  v55 := Tryz.zeroValue192
  t66 := Tryz.underlying215
  a66 := Tryz.isAgg215
  z66 := Tryz.sizeOf215
  v66 := Tryz.zeroValue215
  t70 := Tryz.underlying219
  a70 := Tryz.isAgg219
  z70 := Tryz.sizeOf219
  v70 := Tryz.zeroValue219
  t76 := Tryz.underlying236
  a76 := Tryz.isAgg236
  z76 := Tryz.sizeOf236
  v76 := Tryz.zeroValue236
  t77 := Tryz.underlying148
  a77 := Tryz.isAgg148
  z77 := Tryz.sizeOf148
  v77 := Tryz.zeroValue148 }
def Tryz.insE_ren : Go.Shelf.Ren := ⟨fun | 20 => 148 | n => n, fun | 24 => 69 | 22 => 36 | 3 => 3 | 25 => 92 | 4 => 4 | 0 => 0 | n => n, fun | n => n⟩
theorem Tryz.insE : Go.Proofs.SlLaysF0.n20 Tryz.prog Tryz.insE_ren := {
  mixed := by kernel_rfl
  f20 := ⟨Tryz.f148.name, by decide, Tryz.func148.trans (congrArg some (by kernel_rfl))⟩
  t0 := Tryz.underlying0
  a0 := Tryz.isAgg0
  z0 := Tryz.sizeOf0
  v0 := Tryz.zeroValue0
  t3 := Tryz.underlying3
  a3 := Tryz.isAgg3
  z3 := Tryz.sizeOf3
  v3 := Tryz.zeroValue3
  t4 := Tryz.underlying4
  a4 := Tryz.isAgg4
  z4 := Tryz.sizeOf4
  v4 := Tryz.zeroValue4
  t22 := Tryz.underlying36
  a22 := Tryz.isAgg36
  z22 := Tryz.sizeOf36
  v22 := Tryz.zeroValue36
  t25 := Tryz.underlying92
  a25 := Tryz.isAgg92
  z25 := Tryz.sizeOf92
  v25 := Tryz.zeroValue92 }
end Go.Proofs

set_option linter.all false
namespace Go.Proofs.YtoalecalahkblaaGreatDoor
open Go.RowKit
section
variable {α : Type} (lt : α → α → Bool)
def mg : List α → List α → List α
  | [], Y => Y
  | x :: X, [] => x :: X
  | x :: X, y :: Y => if lt y x = true then y :: mg (x :: X) Y else x :: mg X (y :: Y)
termination_by X Y => X.length + Y.length
theorem mg_nil (Y : List α) : mg lt [] Y = Y := by rw [mg]
theorem mg_none (X : List α) : mg lt X [] = X := by cases X <;> rw [mg]
theorem mg_cons (x y : α) (X Y : List α) : mg lt (x :: X) (y :: Y) = if lt y x = true then y :: mg lt (x :: X) Y else x :: mg lt X (y :: Y) := by rw [mg]
theorem mg_perm : ∀ (n : Nat) (X Y : List α), X.length + Y.length = n → (mg lt X Y).Perm (X ++ Y)
  | n, [], Y, _ => by rw [mg_nil]; exact List.Perm.refl _
  | n, x :: X, [], _ => by rw [mg_none, List.append_nil]
  | 0, x :: X, y :: Y, h => by simp at h
  | n + 1, x :: X, y :: Y, h => by
    rw [mg_cons]
    split
    · have ih := mg_perm n (x :: X) Y (by simp only [List.length_cons] at h ⊢; omega)
      exact (ih.cons y).trans List.perm_middle.symm
    · have ih := mg_perm n X (y :: Y) (by simp only [List.length_cons] at h ⊢; omega)
      exact ih.cons x
theorem mg_split : ∀ (n : Nat) (X1 X2 Y1 Y2 : List α), X1.length + Y1.length = n → (∀ x ∈ X1, ∀ y ∈ Y2, lt y x = false) → (∀ y ∈ Y1, ∀ x ∈ X2, lt y x = true) → mg lt (X1 ++ X2) (Y1 ++ Y2) = mg lt X1 Y1 ++ mg lt X2 Y2
  | n, [], X2, [], Y2, _, _, _ => by rw [mg_nil, List.nil_append, List.nil_append, List.nil_append]
  | 0, x :: X1, _, _, _, h, _, _ => by simp at h
  | 0, [], _, y :: Y1, _, h, _, _ => by simp at h
  | n + 1, [], X2, y :: Y1, Y2, h, h1, h2 => by
    have ih := mg_split n [] X2 Y1 Y2 (by simp only [List.length_cons] at h; simpa using h) (by simp) (fun z hz => h2 z (List.mem_cons_of_mem _ hz))
    rw [mg_nil] at ih ⊢
    rw [List.nil_append] at ih ⊢
    cases X2 with
    | nil => rw [mg_nil, mg_nil]
    | cons x X2 =>
      rw [List.cons_append, mg_cons, if_pos (h2 y List.mem_cons_self x List.mem_cons_self), ih]; rfl
  | n + 1, x :: X1, X2, [], Y2, h, h1, h2 => by
    have ih := mg_split n X1 X2 [] Y2 (by simp only [List.length_cons, List.length_nil] at h ⊢; omega) (fun z hz => h1 z (List.mem_cons_of_mem _ hz)) (by simp)
    rw [mg_none] at ih ⊢
    rw [List.nil_append] at ih ⊢
    cases Y2 with
    | nil => rw [mg_none, mg_none]
    | cons y Y2 =>
      rw [List.cons_append, mg_cons, if_neg (by rw [h1 x List.mem_cons_self y List.mem_cons_self]; decide), ih]; rfl
  | n + 1, x :: X1, X2, y :: Y1, Y2, h, h1, h2 => by
    rw [List.cons_append, List.cons_append, mg_cons, mg_cons]
    by_cases hl : lt y x = true
    · rw [if_pos hl, if_pos hl]
      have ih := mg_split n (x :: X1) X2 Y1 Y2 (by simp only [List.length_cons] at h ⊢; omega) h1 (fun z hz => h2 z (List.mem_cons_of_mem _ hz))
      rw [List.cons_append] at ih
      rw [ih]; rfl
    · rw [if_neg hl, if_neg hl]
      have ih := mg_split n X1 X2 (y :: Y1) Y2 (by simp only [List.length_cons] at h ⊢; omega) (fun z hz => h1 z (List.mem_cons_of_mem _ hz)) h2
      rw [List.cons_append] at ih
      rw [ih]; rfl
end
end Go.Proofs.YtoalecalahkblaaGreatDoor

set_option linter.all false
namespace Go.Proofs.YtoalecalahkblaaGreatDoor
open Go.RowKit
section
variable {α : Type} {lt : α → α → Bool} (hO : Go.Sort.SWO lt)
include hO
end
section
variable {α : Type} (lt : α → α → Bool)
def insL (X : List α) (y : α) : List α := mg lt X [y]
def sortS (l : List α) : List α := l.foldl (insL lt) []
def AscM (l : List α) : Prop := l.Pairwise fun x y => lt y x = false
end
end Go.Proofs.YtoalecalahkblaaGreatDoor

set_option linter.all false
namespace Go.Proofs.YtoalecalahkblaaGreatDoor
open Go.RowKit
section
variable {α : Type} [Inhabited α]
theorem at_mid (A B : List α) (x : α) : ((A ++ x :: B).toArray)[A.length]! = x := by
  rw [getElem!_pos _ _ (by simp)]
  simp
theorem swp_adj (A B : List α) (x y : α) : Go.Sort.swp (A ++ x :: y :: B).toArray (A.length + 1) A.length = (A ++ y :: x :: B).toArray := by
  have h1 := at_mid A (y :: B) x
  have h2 := at_mid (A ++ [x]) B y
  rw [List.length_append, List.length_singleton, List.append_assoc] at h2
  have h2 : ((A ++ x :: y :: B).toArray)[A.length + 1]! = y := h2
  unfold Go.Sort.swp
  rw [h1, h2]
  apply Array.ext'
  simp [List.set_append]
variable {lt : α → α → Bool}
theorem insInner_list (hO : Go.Sort.SWO lt) (P : List α) (y : α) (S : List α) : ∀ (n : Nat) (X : List α), X.length = n → AscM lt X → Go.Sort.insInner lt P.length (P.length + X.length) (P ++ X ++ y :: S).toArray = (P ++ mg lt X [y] ++ S).toArray
  | 0, X, hn, _ => by
    have : X = [] := List.eq_nil_of_length_eq_zero hn
    subst this
    rw [Go.Proofs.insInner_stop lt _ _ _ (.inl (by simp)), mg_nil]; simp
  | n + 1, X, hn, hX => by
    obtain ⟨X', x, rfl⟩ : ∃ X' x, X = X' ++ [x] := ⟨X.dropLast, X.getLast (by rintro rfl; simp at hn), (List.dropLast_concat_getLast _).symm⟩
    rw [List.length_append, List.length_singleton] at hn
    have e : P ++ (X' ++ [x]) ++ y :: S = (P ++ X') ++ x :: y :: S := by simp
    have hx := at_mid (P ++ X') (y :: S) x
    have hy := at_mid (P ++ X' ++ [x]) S y
    rw [List.length_append] at hx
    rw [List.length_append, List.length_append, List.length_singleton, List.append_assoc (P ++ X')] at hy
    have hy : ((P ++ X') ++ x :: y :: S).toArray[P.length + X'.length + 1]! = y := hy
    have hj : P.length + (X' ++ [x]).length = P.length + X'.length + 1 := by rw [List.length_append, List.length_singleton]; omega
    rw [e, hj]
    by_cases hl : lt y x = true
    · rw [Go.Proofs.insInner_go lt _ _ _ (by omega) (by rw [hy, Nat.add_sub_cancel, hx]; exact hl), Nat.add_sub_cancel]
      have hs := swp_adj (P ++ X') S x y
      rw [List.length_append] at hs
      rw [hs, insInner_list hO P y (x :: S) n X' (by omega) (List.pairwise_append.1 hX).1]
      have hm := mg_split lt _ X' [x] [y] [] rfl (by simp) (fun z hz w hw => by simp at hz hw; subst hz hw; exact hl)
      rw [List.append_nil] at hm
      rw [hm, mg_none]; simp
    · have hl' : lt y x = false := by simpa using hl
      rw [Go.Proofs.insInner_stop lt _ _ _ (.inr (by rw [hy, Nat.add_sub_cancel, hx]; exact hl'))]
      have hall : ∀ z ∈ X' ++ [x], lt y z = false := fun z hz => by
        rcases List.mem_append.1 hz with hz | hz
        · exact hO.ntrans _ _ _ hl' ((List.pairwise_append.1 hX).2.2 z hz x (by simp))
        · simp at hz; subst hz; exact hl'
      have hm := mg_split lt _ (X' ++ [x]) [] [] [y] rfl (fun z hz w hw => by simp at hw; subst hw; exact hall z hz) (by simp)
      rw [List.append_nil, List.nil_append] at hm
      rw [hm, mg_none, mg_nil]; simp
theorem asc_mg (hO : Go.Sort.SWO lt) : ∀ (n : Nat) (X Y : List α), X.length + Y.length = n → AscM lt X → AscM lt Y → AscM lt (mg lt X Y)
  | n, [], Y, _, _, hY => by rw [mg_nil]; exact hY
  | n, x :: X, [], _, hX, _ => by rw [mg_none]; exact hX
  | 0, x :: X, y :: Y, h, _, _ => by simp at h
  | n + 1, x :: X, y :: Y, h, hX, hY => by
    simp only [List.length_cons] at h
    rw [mg_cons]
    by_cases hl : lt y x = true
    · rw [if_pos hl]
      have hxy : lt x y = false := by
        by_cases e : lt x y = true
        · have := hO.trans _ _ _ hl e
          rw [hO.irrefl] at this; cases this
        · simpa using e
      refine List.Pairwise.cons (fun z hz => ?_) (asc_mg hO n (x :: X) Y (by simp only [List.length_cons]; omega) hX (List.Pairwise.of_cons hY))
      rcases List.mem_append.1 ((mg_perm lt _ (x :: X) Y rfl).mem_iff.1 hz) with hz | hz
      · rcases List.mem_cons.1 hz with rfl | hz
        · exact hxy
        · exact hO.ntrans _ _ _ (List.rel_of_pairwise_cons hX hz) hxy
      · exact List.rel_of_pairwise_cons hY hz
    · rw [if_neg hl]
      refine List.Pairwise.cons (fun z hz => ?_) (asc_mg hO n X (y :: Y) (by simp only [List.length_cons]; omega) (List.Pairwise.of_cons hX) hY)
      rcases List.mem_append.1 ((mg_perm lt _ X (y :: Y) rfl).mem_iff.1 hz) with hz | hz
      · exact List.rel_of_pairwise_cons hX hz
      · have hl' : lt y x = false := by simpa using hl
        rcases List.mem_cons.1 hz with rfl | hz
        · exact hl'
        · exact hO.ntrans _ _ _ (List.rel_of_pairwise_cons hY hz) hl'
theorem insOuter_list (hO : Go.Sort.SWO lt) (P S : List α) : ∀ (B A : List α), AscM lt A → Go.Sort.insOuter lt P.length (P.length + A.length + B.length) (P.length + A.length) (P ++ A ++ B ++ S).toArray = (P ++ B.foldl (insL lt) A ++ S).toArray
  | [], A, _ => by rw [Go.Proofs.insOuter_stop lt _ _ _ _ (by simp)]; simp
  | y :: B, A, hA => by
    rw [Go.Proofs.insOuter_go lt _ _ _ _ (by rw [List.length_cons]; omega)]
    have e : P ++ A ++ (y :: B) ++ S = P ++ A ++ y :: (B ++ S) := by simp
    rw [e, insInner_list hO P y (B ++ S) _ A rfl hA]
    have hl : (mg lt A [y]).length = A.length + 1 := by rw [(mg_perm lt _ A [y] rfl).length_eq]; simp
    have ih := insOuter_list hO P S B (mg lt A [y]) (asc_mg hO _ A [y] rfl hA (by unfold AscM; simp))
    rw [hl] at ih
    rw [List.length_cons, show P.length + A.length + (B.length + 1) = P.length + (A.length + 1) + B.length by omega, show P.length + A.length + 1 = P.length + (A.length + 1) by omega]
    have e2 : P ++ mg lt A [y] ++ (B ++ S) = P ++ mg lt A [y] ++ B ++ S := by simp
    rw [e2, ih]; rfl
theorem perm_fold : ∀ (B A : List α), (B.foldl (insL lt) A).Perm (A ++ B)
  | [], A => by rw [List.append_nil]; exact List.Perm.refl _
  | y :: B, A => by
    refine (perm_fold B (insL lt A y)).trans ?_
    have h := (mg_perm lt _ A [y] rfl).append_right B
    rw [List.append_assoc] at h
    exact h
theorem perm_sortS (l : List α) : (sortS lt l).Perm l := perm_fold l []
theorem insertionSort_list (hO : Go.Sort.SWO lt) (P L S : List α) : Go.Sort.insertionSort lt (P ++ L ++ S).toArray P.length (P.length + L.length) = (P ++ sortS lt L ++ S).toArray := by
  unfold Go.Sort.insertionSort sortS
  cases L with
  | nil => rw [Go.Proofs.insOuter_stop lt _ _ _ _ (by simp)]; simp
  | cons x L =>
    have h := insOuter_list hO P S L [x] (by unfold AscM; simp)
    have e : P ++ [x] ++ L ++ S = P ++ (x :: L) ++ S := by simp
    rw [e, List.length_singleton] at h
    rw [List.length_cons, show P.length + (L.length + 1) = P.length + 1 + L.length by omega, h, List.foldl_cons]
    unfold insL
    rw [mg_nil]
end
end Go.Proofs.YtoalecalahkblaaGreatDoor
