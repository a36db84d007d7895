/- privacy.variants, published, Valid, Keeps. -/
import Derived.Test.YtilmdlkfmkbfmaaPvRight
set_option linter.all false
namespace Go.Proofs.Ytilmdlkfmkbfmaa
open Go.RowKit

theorem take_next {α : Type} {l : List α} {k : Nat} {x : α} (h : l[k]? = some x) : l.take (k + 1) = l.take k ++ [x] := by
  rw [List.take_succ, h]; rfl
theorem appEnts : AppInfo Try.prog 56 62 2 := AppInfo.mk' (z := .agg #[.slice none 0 0, .int .i64 0]) (bytes := 32) Try.underlying56 (by kernel_rfl) (by decide) rfl (by decide)

set_option maxHeartbeats 1000000 in
theorem variants_any (u : Value) (l : List Vr) (w : World) (hu : SlVr (Lt w.heap.size) w u l) (hn : l.length ≤ 1000000) :
    Calls Try.prog 23 #[u] w fun e w' => ∃ v', e = .returned v' ∧ OwnV 62 w' w.heap.size (Lt w.heap.size) v' l ∧ Below w.heap.size w w' := by
  obtain ⟨A, c, rfl, h1, h2, hu⟩ := hu.open_
  have HU := Lib.hid hu
  clear hu
  go_enter Try.func23, Try.ntmps23
  go_wp2_with fail
  go_loopw [3, 8] (fun ov iv wr => ∃ (k : Nat) (sv : Value), iv = .int .i64 (k : Int) ∧ sv = ov ∧ k ≤ l.length ∧ Hid (OwnV 62 wr w.heap.size (Lt w.heap.size) sv (l.take k)) ∧ Hid (Below w.heap.size w wr)) (fun _ iv _ => l.length - (intOf iv).toNat)
  case atStart => exact ⟨0, .slice none 0 0, rfl, rfl, Nat.zero_le _, Lib.hid OwnV.nil, Lib.hid (Below.refl _ _)⟩
  case round =>
    obtain ⟨k, ov, rfl, rfl, hk, HO, HB⟩ := hrel
    by_cases hlt : k < l.length
    · obtain ⟨b, o, x, sv, rfl, hD, hx, hf, hs, c0', c1'⟩ := HU.out.at_ hlt
      have c0 := (HB.out.cell (p := ⟨b, o + k * 2, none⟩) hD).trans c0'
      have c1 := (HB.out.cell (p := ⟨b, o + k * 2 + 1, none⟩) hD).trans c1'
      obtain ⟨As, cs, rfl, _, _, hs⟩ := hs.open_
      have HT := Lib.hid (take_next hx)
      have hb2 := bone wr (.cells #[.slice As x.acts.length cs, .int .i64 x.n] 30)
      have hT := Blk.new wr 30 #[.slice As x.acts.length cs, .int .i64 x.n]
      have hb02 := HB.out.trans (hb2.mono HB.out.size)
      have hown := HO.out.now hb2 (fun b hb => Nat.lt_of_lt_of_le hb HB.out.size)
      have hs2 := Sl.below hs RStr.kept hb02 (Nat.le_refl _)
      have hlen : (l.take k).length < 10000000 := by rw [List.length_take]; omega
      clear hx hs c0' c1'
      obtain ⟨Ao, co, rfl⟩ := hown.isSlice
      go_upto_region 5 with fail
      obtain ⟨w2, hw2⟩ : ∃ w2, wr.alloc (.cells #[.slice As x.acts.length cs, .int .i64 x.n] 30) = w2 := ⟨_, rfl⟩
      obtain ⟨T, hTT⟩ : ∃ T, wr.heap.size = T := ⟨_, rfl⟩
      rw [hw2] at hT hb02 hown hs2 ⊢
      rw [hTT] at hT ⊢
      clear hw2 hTT hb2 c0 c1
      obtain ⟨t0, t1⟩ := hT.c2
      have hsz := hb02.size
      go_wp2_with (at_builtin; refine wpList_pushV appEnts rfl (.tmp 12) (.tmp 18) rfl w2 x _ (l.take k) hf hs2 _ rfl hown rfl hlen hsz (fun _ h => h) ?_; intro v' w' hO hg; have HB3 := Lib.hid (hb02.trans (below_of_grown hg hsz (fun g e => (OwnV.lt hown g e).1))); have HO3 := Lib.hid hO; clear hg hO)
      go_roundw
      case rel => exact ⟨k + 1, _, by go_num, rfl, by omega, Lib.hid (by rw [HT.out]; exact HO3.out), HB3⟩
      case measure => simp [intOf]; omega
    · obtain rfl : k = l.length := by omega
      have hfin := HO.out
      rw [List.take_length] at hfin
      go_wp2_with fail
      go_ret
      exact ⟨_, rfl, hfin, HB.out⟩

set_option maxHeartbeats 1000000 in
theorem published_any (u : Value) (l : List Vr) (w : World) (hu : SlVr (Lt w.heap.size) w u l) (hn : l.length ≤ 1000000) :
    Calls Try.prog 33 #[u] w fun e w' => ∃ v', e = .returned v' ∧ OwnV 62 w' w.heap.size (Lt w.heap.size) v' l ∧ Below w.heap.size w w' := by
  obtain ⟨A, c, rfl, h1, h2, hu⟩ := hu.open_
  have HU := Lib.hid hu
  clear hu
  go_enter Try.func33, Try.ntmps33
  go_wp2_with fail
  go_loopw [3, 8] (fun ov iv wr => ∃ (k : Nat) (sv : Value), iv = .int .i64 (k : Int) ∧ sv = ov ∧ k ≤ l.length ∧ Hid (OwnV 62 wr w.heap.size (Lt w.heap.size) sv (l.take k)) ∧ Hid (Below w.heap.size w wr)) (fun _ iv _ => l.length - (intOf iv).toNat)
  case atStart => exact ⟨0, .slice none 0 0, rfl, rfl, Nat.zero_le _, Lib.hid OwnV.nil, Lib.hid (Below.refl _ _)⟩
  case round =>
    obtain ⟨k, ov, rfl, rfl, hk, HO, HB⟩ := hrel
    by_cases hlt : k < l.length
    · obtain ⟨b, o, x, sv, rfl, hD, hx, hf, hs, c0', c1'⟩ := HU.out.at_ hlt
      have c0 := (HB.out.cell (p := ⟨b, o + k * 2, none⟩) hD).trans c0'
      have c1 := (HB.out.cell (p := ⟨b, o + k * 2 + 1, none⟩) hD).trans c1'
      obtain ⟨As, cs, rfl, _, _, hs⟩ := hs.open_
      have HT := Lib.hid (take_next hx)
      have hb2 := bone wr (.cells #[.slice As x.acts.length cs, .int .i64 x.n] 44)
      have hT := Blk.new wr 44 #[.slice As x.acts.length cs, .int .i64 x.n]
      have hb02 := HB.out.trans (hb2.mono HB.out.size)
      have hown := HO.out.now hb2 (fun b hb => Nat.lt_of_lt_of_le hb HB.out.size)
      have hs2 := Sl.below hs RStr.kept hb02 (Nat.le_refl _)
      have hlen : (l.take k).length < 10000000 := by rw [List.length_take]; omega
      clear hx hs c0' c1'
      obtain ⟨Ao, co, rfl⟩ := hown.isSlice
      go_upto_region 5 with fail
      obtain ⟨w2, hw2⟩ : ∃ w2, wr.alloc (.cells #[.slice As x.acts.length cs, .int .i64 x.n] 44) = w2 := ⟨_, rfl⟩
      obtain ⟨T, hTT⟩ : ∃ T, wr.heap.size = T := ⟨_, rfl⟩
      rw [hw2] at hT hb02 hown hs2 ⊢
      rw [hTT] at hT ⊢
      clear hw2 hTT hb2 c0 c1
      obtain ⟨t0, t1⟩ := hT.c2
      have hsz := hb02.size
      go_wp2_with (at_builtin; refine wpList_pushV appEnts rfl (.tmp 12) (.tmp 18) rfl w2 x _ (l.take k) hf hs2 _ rfl hown rfl hlen hsz (fun _ h => h) ?_; intro v' w' hO hg; have HB3 := Lib.hid (hb02.trans (below_of_grown hg hsz (fun g e => (OwnV.lt hown g e).1))); have HO3 := Lib.hid hO; clear hg hO)
      go_roundw
      case rel => exact ⟨k + 1, _, by go_num, rfl, by omega, Lib.hid (by rw [HT.out]; exact HO3.out), HB3⟩
      case measure => simp [intOf]; omega
    · obtain rfl : k = l.length := by omega
      have hfin := HO.out
      rw [List.take_length] at hfin
      go_wp2_with fail
      go_ret
      exact ⟨_, rfl, hfin, HB.out⟩

theorem OwnV.ownSl {t : TypeId} {w w' : World} {v : Value} {l : List Vr} (h : OwnV t w' w.heap.size (Lt w.heap.size) v l) (hb : Below w.heap.size w w') : SlVr (Lt w'.heap.size) w' v l := h.sl (fun b hb' => Nat.lt_of_lt_of_le hb' hb.size)
set_option maxHeartbeats 400000 in
theorem pvValid_any (u : Value) (l : List Vr) (w : World) (hu : SlVr (Lt w.heap.size) w u l) (hn : l.length ≤ 1000000) :
    Calls Try.prog 12 #[u] w fun e w' => e = .returned (.bool (rightB l)) ∧ Below w.heap.size w w' := by
  have HP := Lib.hid (published_any u l w hu hn)
  have HR := Lib.hid (fun v W h => right_any v l W h)
  obtain ⟨A, c, rfl, h1, h2, _⟩ := hu.open_
  clear hu
  go_enter Try.func12, Try.ntmps12
  go_wp2_with fail
  (with_reducible refine HP.out.mono ?_)
  rintro e w1 ⟨v1, rfl, hO, hb1⟩
  have HR1 := Lib.hid (HR.out _ _ (hO.ownSl hb1))
  obtain ⟨Ao, co, rfl⟩ := hO.isSlice
  clear hO
  go_wp2_with fail
  (with_reducible refine HR1.out.mono ?_)
  rintro e w2 ⟨rfl, hb2⟩
  go_wp2_with fail
  go_ret
  exact ⟨rfl, hb1.trans (hb2.mono hb1.size)⟩
theorem keeps1_any (q : Nat) (k : Int) (x : Vr) (sv : Value) (W : World) (hsv : ∃ A n c, sv = .slice A n c) (hq : Blk W q 3 #[.int .i64 k]) : Calls Try.prog 31 #[.agg #[sv, .int .i64 x.n], .pointer (some ⟨q, 0, none⟩)] W fun e w' => e = .returned (.bool (decide (x.n < k))) ∧ Below W.heap.size W w' := by
  obtain ⟨A, n, c, rfl⟩ := hsv
  have hb := bone W (.cells #[.slice A n c, .int .i64 x.n] 44)
  obtain ⟨t0, t1⟩ := (Blk.new W 44 #[.slice A n c, .int .i64 x.n]).c2
  have q0 := (hq.now hb).c1
  clear hq
  go_enter Try.func31, Try.ntmps31
  go_wp2_with fail
  go_ret
  exact ⟨rfl, hb⟩
theorem enters_keeps1 : ∀ args w, (callFunc 31 args).run Try.prog w = .ok (.enter 31 args) w := enters_of Try.func31 (by kernel_rfl) rfl
set_option maxHeartbeats 400000 in
theorem keeps_any (u : Value) (l : List Vr) (k : Int) (w : World) (hu : SlVr (Lt w.heap.size) w u l) (hr : rightB l = true) (hk : 1 ≤ k ∧ k ≤ 1048576) :
    Calls Try.prog 10 #[u, .int .i64 k] w fun e w' => e = .returned (.tuple #[.bool (!l.any fun x => decide (x.n < k)), .int .i64 0]) ∧ Below w.heap.size w w' := by
  have hl : l.length ≤ 300 := by
    unfold rightB at hr
    rw [Bool.and_eq_true] at hr
    exact of_decide_eq_true hr.1
  have hb1 := bone w (.cells #[.int .i64 k] 3)
  have hQ := Blk.new w 3 #[.int .i64 k]
  have hv := pvValid_any u l _ (hu.now hb1) (by omega)
  rw [hr] at hv
  have HV := Lib.hid hv
  have HE := Lib.hid (fun W => entryNumber_any k W)
  have HE2 : Hid ((decide (1 ≤ k) && decide (k ≤ 1048576)) = true) := Lib.hid (by simp [hk.1, hk.2])
  rw [HE2.out] at HE
  have HU := Lib.hid hu
  obtain ⟨A, c, rfl, h1, h2, _⟩ := hu.open_
  clear hu hr hv hk
  go_enter Try.func10, Try.ntmps10
  go_wp2_with fail
  (with_reducible refine HV.out.mono ?_)
  rintro e w1 ⟨rfl, hb2⟩
  have hb12 := hb1.trans (hb2.mono hb1.size)
  have hQ1 := hQ.now hb2
  have q0 := hQ1.c1
  clear HV hQ hb1 hb2
  go_wp2_with fail
  (with_reducible refine (HE.out _).mono ?_)
  rintro e w' ⟨rfl, rfl⟩
  have HC := Lib.hid (containsFuncPu w.heap.size 31 enters_keeps1 _ l (fun x => decide (x.n < k)) w' (HU.out.now hb12) (fun x sv W hs _ hb => keeps1_any w.heap.size k x sv W (by obtain ⟨A, c, e, _⟩ := hs; exact ⟨_, _, _, e⟩) (hQ1.now hb)))
  obtain ⟨q, hq⟩ : ∃ q, (l.any fun x => decide (x.n < k)) = q := ⟨_, rfl⟩
  rw [hq] at HC
  have HQ := Lib.hid hq
  clear hq hQ1
  go_wp2_with fail
  (with_reducible refine HC.out.mono ?_)
  rintro e w3 ⟨rfl, hb3⟩
  go_wp2_with fail
  go_ret2
  exact ⟨by rw [HQ.out]; rfl, hb12.trans (hb3.mono hb12.size)⟩
end Go.Proofs.Ytilmdlkfmkbfmaa
