/- privacy.publication. -/
import Derived.Test.YtilmdlkfmkbfmaaPvSrt
import Derived.Test.YtilmdlkfmkbfmaaOwnR
import Derived.Deep.CutRange
set_option linter.all false
namespace Go.Proofs.Ytilmdlkfmkbfmaa
open Go.RowKit

theorem SlS.fitsS {D : Nat → Prop} {w : World} {v : Value} {xs : List ByteArray} (h : SlS D w v xs) : ∀ z ∈ xs, z.size ≤ maxLen := by
  intro z hz
  obtain ⟨i, hi, rfl⟩ := List.mem_iff_getElem.1 hz
  obtain ⟨A, c, rfl, h1, h2, h3⟩ := h
  obtain ⟨b, o, cs, _, _, _, ⟨_, hf⟩, _⟩ := h3 i _ (List.getElem?_eq_getElem hi)
  exact hf
theorem SlS.ofOwn {w : World} {base t n : Nat} {v : Value} {zs : List ByteArray} (h : w.ownsRow base t 1 v n (zs.map Value.string)) (hf : ∀ z ∈ zs, z.size ≤ maxLen) : SlS (fun b => base ≤ b ∧ b < w.heap.size) w v zs :=
  Sl.of_own1 h (by simpa using own_len h) (fun g hg => World.ownsRow.lt h g hg) fun i x hx => ⟨.string x, by simp [hx], rfl, hf x (List.mem_of_getElem? hx)⟩
theorem cloneS (v : Value) (u : Wd) (w : World) (hv : SlS (Lt w.heap.size) w v u) (hl : u.length ≤ 1000) :
    Calls Try.prog 46 #[v] w fun e w' => ∃ v', e = .returned v' ∧ SlS (fun b => w.heap.size ≤ b ∧ b < w'.heap.size) w' v' u ∧ Below w.heap.size w w' := by
  have hf := hv.fitsS
  obtain ⟨A, c, rfl, h1, h2, hs⟩ := hv.open_
  rcases Nat.eq_zero_or_pos u.length with h0 | h0
  · obtain rfl : u = [] := List.eq_nil_of_length_eq_zero h0
    rcases A with _ | a
    · exact (Try.slices_Clone_string_nil 0 c w).mono fun e w' ⟨he, hw⟩ => ⟨_, he, Sl.none_, by rw [hw]; exact Below.refl _ _⟩
    · exact (Try.slices_Clone_string_zero a c w).mono fun e w' ⟨v', he, ho, _, hb⟩ => ⟨v', he, SlS.ofOwn (zs := []) ho (by simp), hb⟩
  · obtain ⟨b, o, rfl, hD, _, hc⟩ := hs.cells h0
    refine (Try.slices_Clone_string b o u.length c u w (Nat.le_refl _) (by omega) hc).mono fun e w' ⟨v', he, ho, _, hb⟩ => ⟨v', he, ?_, hb⟩
    rw [List.take_length] at ho
    exact SlS.ofOwn ho hf
def OwnP (w : World) (base : Nat) (v : Value) (xs : List Vr) : Prop := OwnR 2 RVr (fun _ => False) w base 44 v xs
theorem appPubs : AppInfo Try.prog 37 44 2 := AppInfo.mk' (z := .agg #[.slice none 0 0, .int .i64 0]) (bytes := 32) Try.underlying37 (by kernel_rfl) (by decide) rfl (by decide)
theorem OwnP.sl {w : World} {base : Nat} {v : Value} {xs : List Vr} (h : OwnP w base v xs) : SlVr (Lt w.heap.size) w v xs := OwnR.sl h RVr.kept
set_option maxHeartbeats 2000000 in
theorem publication_any {w : World} {B0 base : Nat} {v : Value} {xs : List Vr} (ho : OwnV 62 w base (Lt B0) v xs) (hB : B0 ≤ base) (hBw : base ≤ w.heap.size) (hn : (xs.map (·.acts)).Nodup) (hl : xs.length ≤ 1000000) (hw : ∀ x ∈ xs, x.acts.length ≤ 1000) :
    Calls Try.prog 29 #[v] w fun e w' => ∃ v' ys, e = .returned v' ∧ ys.Perm xs ∧ Ord ys ∧ SlVr (Lt w'.heap.size) w' v' ys ∧ Below base w w' := by
  have HS := Lib.hid (sortV_any ho hB (Nat.le_trans hB hBw) hn hl)
  have hlo := ho.lt
  obtain ⟨Av, cv, rfl⟩ := ho.isSlice
  clear ho
  go_enter Try.func29, Try.ntmps29
  go_wp2_with fail
  (with_reducible refine HS.out.mono ?_)
  rintro e w1 ⟨rfl, ys, hperm, hord, ho1, hgr⟩
  have hylen : ys.length = xs.length := hperm.length_eq
  have hyw : ∀ x ∈ ys, x.acts.length ≤ 1000 := fun x hx => hw x (hperm.mem_iff.1 hx)
  have HB1 := Lib.hid (below_of_grown hgr hBw (fun g e => (hlo g e).1))
  have HF1 := Lib.hid (And.intro hperm hord)
  have HU := Lib.hid (OwnV.sl ho1 (fun b (hb : b < B0) => Nat.lt_of_lt_of_le (Nat.lt_of_lt_of_le hb hB) (Nat.le_trans hBw hgr.size)))
  have HW := Lib.hid hyw
  rw [← hylen]
  clear HS hgr ho1 hperm hord hw hyw hlo hn
  obtain ⟨A2, c2, hsl, h1, h2, hU⟩ := HU.out.open_
  injection hsl with e1 e2 e3
  subst e1 e3
  have HU := Lib.hid hU
  clear hU e2
  go_wp2_with fail
  go_loopw [3, 10] (fun ov iv wr => ∃ (k : Nat) (sv : Value), iv = .int .i64 (k : Int) ∧ sv = ov ∧ k ≤ ys.length ∧ Hid (OwnP wr w1.heap.size sv (ys.take k)) ∧ Hid (Below w1.heap.size w1 wr)) (fun _ iv _ => ys.length - (intOf iv).toNat)
  case atStart => exact ⟨0, .slice none 0 0, rfl, rfl, Nat.zero_le _, Lib.hid OwnR.nil, Lib.hid (Below.refl _ _)⟩
  case round =>
    obtain ⟨k, ov, rfl, rfl, hk, HO, HB⟩ := hrel
    by_cases hlt : k < ys.length
    · obtain ⟨b, o, x, sv, rfl, hD, hx, hf, hs, c0', c1'⟩ := HU.out.at_ hlt
      have c0 := (HB.out.cell (p := ⟨b, o + k * 2, none⟩) hD).trans c0'
      have c1 := (HB.out.cell (p := ⟨b, o + k * 2 + 1, none⟩) hD).trans c1'
      have hsw := HW.out x (List.mem_of_getElem? hx)
      obtain ⟨As, cs, rfl, _, _, hs⟩ := hs.open_
      have HT := Lib.hid (take_next hx)
      have hb2 := bone wr (.cells #[.slice As x.acts.length cs, .int .i64 x.n] 62)
      have hT := Blk.new wr 62 #[.slice As x.acts.length cs, .int .i64 x.n]
      have hb02 := HB.out.trans (hb2.mono HB.out.size)
      have hown := OwnR.now HO.out RVr.kept hb2
      have hs2 := Sl.below hs RStr.kept hb02 hb02.size
      have hlen : (ys.take k).length < 10000000 := by rw [List.length_take]; omega
      clear hx hs c0' c1'
      obtain ⟨Ao, co, rfl⟩ := OwnR.open_ hown
      have hkl : (ys.take k).length = k := by rw [List.length_take]; omega
      rw [hkl] at hown
      go_upto_region 6 with fail
      obtain ⟨w2, hw2⟩ : ∃ w2, wr.alloc (.cells #[.slice As x.acts.length cs, .int .i64 x.n] 62) = w2 := ⟨_, rfl⟩
      obtain ⟨T, hTT⟩ : ∃ T, wr.heap.size = T := ⟨_, rfl⟩
      rw [hw2] at hT hb02 hown hs2 ⊢
      rw [hTT] at hT ⊢
      clear hw2 hTT hb2 c0 c1
      obtain ⟨t0, t1⟩ := hT.c2
      have hsz := hb02.size
      have HCL := Lib.hid (cloneS (.slice As x.acts.length cs) x.acts w2.drew hs2 hsw)
      have hd0 : Below w2.heap.size w2 w2.drew := (Below.refl _ _).drew
      go_region_law (first
        | (refine step_pushR appPubs RVr.kept rfl (.tmp 14) (.tmp 21) rfl _ [.slice A5 x.acts.length c5, .int .i64 x.n] rfl (by simp [Value.oneCell']) _ (ys.take k) x rfl hown5 hy5 rfl hlen hsz5 ?_; intro v' w' hO hg hat; have HB3 := Lib.hid (hb05.trans (below_of_grown hg hb05.size (fun g e => (OwnR.lt hown5 g e).1))); have HO3 := Lib.hid hO; clear hg hO hat)
        | (go_simp; go_at_call 46; (with_reducible refine HCL.out.mono ?_); rintro _ w5 ⟨v5, rfl, hs5, hb5⟩; have hb25 := hd0.trans hb5; have hT5 := hT.now hb25; obtain ⟨t5, t6⟩ := hT5.c2; have hown5 := OwnR.now hown RVr.kept hb25; have hb05 := hb02.trans (hb25.mono hb02.size); have hsz5 := hb05.size; obtain ⟨A5, c5, rfl, _, _, hs5⟩ := hs5.open_; have hy5 : RVr (Off (fun _ => False) w5 (.slice Ao k co)) w5 x [.slice A5 x.acts.length c5, .int .i64 x.n] := ⟨_, rfl, hf, Sl.keep hs5 RStr.kept (fun b hb => ⟨hb.2, fun e => by have h1 := (OwnR.lt hown b e).2; have h2 := hb.1; have h3 := hd0.size; omega, id⟩) (Same.refl _ _)⟩))
      all_goals
        go_wp2_with fail
        go_roundw
        case rel => exact ⟨k + 1, _, by go_num, rfl, by omega, Lib.hid (by rw [HT.out]; exact HO3.out), HB3⟩
        case measure => simp [intOf]; omega
    · obtain rfl : k = ys.length := by omega
      have hfin := OwnP.sl HO.out
      rw [List.take_length] at hfin
      go_wp2_with fail
      go_ret
      exact ⟨_, ys, rfl, HF1.out.1, HF1.out.2, hfin, HB1.out.trans (HB.out.mono (Nat.le_trans hBw HB1.out.size))⟩
end Go.Proofs.Ytilmdlkfmkbfmaa
