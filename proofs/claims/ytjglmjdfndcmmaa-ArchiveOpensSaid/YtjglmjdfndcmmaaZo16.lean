/- Texts of this seat, merged. -/
import Derived.Test.YtjglmjdfndcmmaaZo01
import Derived.Test.YtjglmjdfndcmmaaZo02
import Derived.Test.YtjglmjdfndcmmaaZo03
import Derived.Test.YtjglmjdfndcmmaaZo04
import Derived.Test.YtjglmjdfndcmmaaZo15
set_option linter.all false
set_option linter.all false
namespace Go.Proofs.Ytjglmjdfndcmmaa
open Go.RowKit
def cellN (x : Nat) : List Value := [.int .i64 (x : Int)]
theorem cellN_one (x : Nat) : ∀ u ∈ cellN x, u.oneCell' = true := by intro u hu; simp [cellN] at hu; subst hu; rfl
abbrev OwnN (w : World) (base : Nat) (v : Value) (l : List Nat) : Prop := OwnW 1 cellN w base 3 v l
theorem flatN (l : List Nat) : flat cellN l = l.map fun x => .int .i64 (x : Int) := by
  unfold flat cellN
  induction l with
  | nil => rfl
  | cons a l ih => rw [List.flatMap_cons, ih]; rfl
theorem OwnN.isSlice {w : World} {base : Nat} {v : Value} {l : List Nat} (h : OwnN w base v l) : ∃ A c, v = .slice A l.length c := by
  rcases h.2 with ⟨rfl, h0⟩ | ⟨g, cap, cur, rfl, _⟩
  · exact ⟨none, 0, by rw [h0]⟩
  · exact ⟨some ⟨g, 0, none⟩, cap, rfl⟩
theorem OwnN.keepX {w w' : World} {base : Nat} {v : Value} {l : List Nat} (h : OwnN w base v l) (k : KeepX w w') : OwnN w' base v l :=
  own_same h fun g hg => by
    obtain ⟨cs, fz, hc⟩ := Lib.ownsRow_kind h g hg
    exact k.same g (Array.getElem?_eq_some_iff.1 hc).1 (fun c f e => by
      rw [hc] at e
      injection e with e
      injection e with _ e2 _
      exact absurd e2 (by decide))
theorem OwnN.cell {w : World} {base g c : Nat} {l : List Nat} (h : OwnN w base (.slice (some ⟨g, 0, none⟩) l.length c) l) {k x : Nat} (hx : l[k]? = some x) : w.cell? ⟨g, k, none⟩ = some (.int .i64 (x : Int)) := by
  have hk : k < l.length := (List.getElem?_eq_some_iff.1 hx).1
  have := World.ownsRow.cellAt h k (by rw [Nat.mul_one]; exact hk)
  refine Eq.trans this ?_
  rw [flatN, List.getElem?_map, hx]; rfl
theorem OwnN.at_ {w : World} {base n c : Nat} {A : Option Addr} {l : List Nat} (h : OwnN w base (.slice A n c) l) {k : Nat} (hk : k < l.length) :
    ∃ g x, A = some ⟨g, 0, none⟩ ∧ n = l.length ∧ l[k]? = some x ∧ g < w.heap.size ∧ base ≤ g := by
  obtain ⟨g, cap, hv, _, hgb, hgs⟩ := OwnW.form h (by omega)
  injection hv with e1 e2 e3
  exact ⟨g, l[k], e1, e2, List.getElem?_eq_getElem hk, hgs, hgb⟩
set_option maxHeartbeats 2000000 in
set_option maxRecDepth 100000 in
theorem runsR (vals : List Nat) (u : Value) (bu base : Nat) (v : Value) (l : List UInt8) (w : World) (hf : ∀ x ∈ vals, x < 1000000000) (hu : OwnN w bu u vals) (hown : OwnC w base v l) (hb : base ≤ w.heap.size)
    (hn : vals.length ≤ 1000000) (hl : l.length + (arRuns vals).length ≤ 9000000) :
    Calls Try.prog 60 #[v, u] w (RetAdd base w v (l ++ arRuns vals)) := by
  obtain ⟨A, c, rfl⟩ := OwnN.isSlice hu
  have HU := Lib.hid hu
  have HF := Lib.hid hf
  have H0 := Lib.hid hown
  have HA0 := Lib.hid (Adds.refl hown)
  have HB := Lib.hid hb
  have HL := Lib.hid hl
  clear hu hf hown hb hl
  go_enter Try.func60, Try.ntmps60
  go_wp2_with fail
  go_loopw [0, 5] (fun sv iv wr => ∃ (i : Nat) (d : List UInt8), iv = .int .i64 (i : Int) ∧ i ≤ vals.length ∧ Hid (arRuns vals = d ++ arRuns (vals.drop i)) ∧ Hid (Adds base w v (l ++ d) wr sv)) (fun _ iv _ => vals.length - (intOf iv).toNat)
  case atStart => exact ⟨0, [], rfl, Nat.zero_le _, Lib.hid rfl, Lib.hid (by simpa using HA0.out)⟩
  case round =>
    obtain ⟨i, d, rfl, hi, HD, HA⟩ := hrel
    obtain ⟨wo, rfl⟩ : ∃ wo, wo = wr := ⟨wr, rfl⟩
    by_cases hlt : i < vals.length
    · have HUr : Hid (OwnN wo bu (.slice A vals.length c) vals) := Lib.hid (OwnN.keepX HU.out (HA.out.keepX H0.out))
      obtain ⟨g, x, rfl, _, hxi, hg, hgb⟩ := OwnN.at_ HUr.out hlt
      have HVI := Lib.hid hxi
      have a0 := HUr.out.cell hxi
      have hszr := Nat.le_trans HB.out HA.out.grown.size
      clear hxi
      go_wp2_with fail
      go_loopw [6] (fun kv wr => ∃ k' : Nat, kv = .int .i64 (k' : Int) ∧ i ≤ k' ∧ k' ≤ vals.length ∧ Hid (∀ j, i ≤ j → j < k' → vals[j]? = some x) ∧ Below wo.heap.size wo wr) (fun kv _ => vals.length - (intOf kv).toNat)
      case atStart => exact ⟨i, rfl, Nat.le_refl _, hi, Lib.hid (fun j h1 h2 => absurd h1 (by omega)), Below.refl _ _⟩
      case round =>
        obtain ⟨k', rfl, hik, hk, HK, hbi⟩ := hrel
        have hgi : g < wr.heap.size := Nat.lt_of_lt_of_le hg hbi.size
        go_upto_region 4 with fail
        go_cut [26] from 12 to 26 (fun v W => v = .bool (decide (vals[k']? = some x)) ∧ Below wr.heap.size wr W)
        case first =>
          by_cases hlk : k' < vals.length
          · obtain ⟨_, y, -, -, hxk, -, -⟩ := OwnN.at_ HUr.out hlk
            have c0 := HUr.out.cell hxk
            have HQ : Hid (decide (vals[k']? = some x) = decide (y = x)) := by
              show _ = _
              rw [hxk]
              simp
            have hq : ((y : Int) == (x : Int)) = decide (y = x) := by
              by_cases hh : y = x
              · rw [hh]; simp
              · have h2 : ¬ (y : Int) = (x : Int) := by omega
                simp [hh, h2]
            generalize decide (y = x) = q at *
            generalize decide (vals[k']? = some x) = q' at *
            have z1 : decide ((k' : Int) < (vals.length : Int)) = true := by simp; omega
            have z2 : (0 : Int) ≤ (k' : Int) := by omega
            have z3 : (k' : Int) < (vals.length : Int) := by omega
            have z4 : (0 : Int) ≤ (i : Int) := by omega
            have z5 : (i : Int) < (vals.length : Int) := by omega
            have ti0 : ∀ W, (ext wr W).cell? ⟨g, i, none⟩ = some (.int .i64 (x : Int)) := fun W => ((ext_below wr W).cell (p := ⟨g, i, none⟩) hgi).trans ((hbi.cell (p := ⟨g, i, none⟩) hg).trans a0)
            have tk0 : ∀ W, (ext wr W).cell? ⟨g, k', none⟩ = some (.int .i64 (y : Int)) := fun W => ((ext_below wr W).cell (p := ⟨g, k', none⟩) hgi).trans ((hbi.cell (p := ⟨g, k', none⟩) hg).trans c0)
            clear a0 c0 hxk
            refine wp_region_growV (by kernel_rfl) (by kernel_rfl) ?_
            repeat (refine veil_step (fun K hK => ?_); go_simp; (refine hK _ ?_; clear hK K))
            refine veil_nil ?_
            intro _ hw'
            obtain ⟨W, rfl⟩ := hw'
            go_wp2_with fail
            go_meet
            exact ⟨by rw [HQ.out], ext_below wr W⟩
          · have HQ : Hid (decide (vals[k']? = some x) = false) := by
              show _ = _
              rw [List.getElem?_eq_none (by omega)]; rfl
            generalize decide (vals[k']? = some x) = q' at *
            have z1 : decide ((k' : Int) < (vals.length : Int)) = false := by simp; omega
            clear a0
            refine wp_region_growV (by kernel_rfl) (by kernel_rfl) ?_
            repeat (refine veil_step (fun K hK => ?_); go_simp; (refine hK _ ?_; clear hK K))
            refine veil_nil ?_
            intro _ hw'
            obtain ⟨W, rfl⟩ := hw'
            go_wp2_with fail
            go_meet
            exact ⟨by rw [HQ.out], ext_below wr W⟩
        obtain ⟨rfl, hb3⟩ := hcut
        generalize hq : decide (vals[k']? = some x) = q
        cases q
        · have hne : vals[k']? ≠ some x := by simpa using hq
          have hik2 : i < k' := by
            rcases Nat.lt_or_ge i k' with h | h
            · exact h
            · obtain rfl : k' = i := by omega
              exact absurd HVI.out hne
          have HST : Hid (arRuns (vals.drop i) = arNum x ++ arNum (k' - i) ++ arRuns (vals.drop k')) := Lib.hid (arRuns_step hik2 hk HK.out hne)
          have hroom : (l ++ d).length + (arNum x).length + (arNum (k' - i)).length ≤ 9000000 := by
            have h1 := HL.out
            rw [HD.out, HST.out] at h1
            simp only [List.length_append] at h1 ⊢
            omega
          have hfe : x < 1000000000 := HF.out x (List.mem_of_getElem? HVI.out)
          have hb03 := hbi.trans (hb3.mono hbi.size)
          rename_i wc
          have hsc := hb03.size
          have c0 := (hb03.cell (p := ⟨g, i, none⟩) hg).trans a0
          have hA3 := Lib.hid (HA.out.post hb03)
          have hc4 := numR x base _ _ wc (by omega) hA3.out.own (by omega) (by omega)
          have HC4 := Lib.hid hc4
          have HSZ := Lib.hid (And.intro hszr hsc)
          clear a0 hq hne hb3 hb03 hszr hsc hc4
          go_wp2_with fail
          (with_reducible refine HC4.out.mono ?_)
          rintro _ w5 ⟨v5, rfl, hA5⟩
          have hc5 := numR (k' - i) base _ _ w5 (by omega) hA5.own (by have := HSZ.out; have := hA5.grown.size; omega) (by simp only [List.length_append] at hroom ⊢; omega)
          rw [show ((k' - i : Nat) : Int) = (k' : Int) - (i : Int) by omega] at hc5
          have HC5 := Lib.hid hc5
          have HA5 := Lib.hid hA5
          clear hc5 hA5
          go_wp2_with fail
          (with_reducible refine HC5.out.mono ?_)
          rintro _ w6 ⟨v6, rfl, hA6⟩
          go_wp2_with fail
          go_roundw
          case rel =>
            refine ⟨k', d ++ arNum x ++ arNum (k' - i), rfl, hk, ?_, ?_⟩
            · refine Lib.hid ?_
              rw [HD.out, HST.out]
              simp only [List.append_assoc]
            · refine Lib.hid ?_
              have := (hA3.out.trans HA5.out).trans hA6
              simp only [List.append_assoc] at this ⊢
              exact this
          case measure => simp [intOf]; omega
        · have heq : vals[k']? = some x := by simpa using hq
          have hk2 : k' < vals.length := (List.getElem?_eq_some_iff.1 heq).1
          have HE := Lib.hid heq
          have hb03 := hbi.trans (hb3.mono hbi.size)
          clear hq heq
          go_wp2_with fail
          go_roundw
          case rel =>
            refine ⟨k' + 1, by go_num, by omega, by omega, Lib.hid fun j h1 h2 => ?_, hb03⟩
            rcases Nat.lt_or_ge j k' with h | h
            · exact HK.out j h1 h
            · obtain rfl : j = k' := by omega
              exact HE.out
          case measure => simp [intOf]; omega
    · obtain rfl : i = vals.length := by omega
      go_wp2_with fail
      go_ret
      refine ⟨_, rfl, ?_⟩
      have h1 := HD.out
      rw [List.drop_length, arRuns_nil, List.append_nil] at h1
      rw [h1]
      exact HA.out
end Go.Proofs.Ytjglmjdfndcmmaa
