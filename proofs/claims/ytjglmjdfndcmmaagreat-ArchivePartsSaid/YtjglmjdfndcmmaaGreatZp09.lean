/- Texts of this seat, merged. -/
import Derived.StillTailTactics
import Derived.Deep.RegionHeld3
import Derived.Deep.CutRange
import Derived.Test.YtjglmjdfndcmmaaGreatZp01
import Derived.Test.YtjglmjdfndcmmaaGreatZp02
import Derived.Test.YtjglmjdfndcmmaaGreatZp03
import Derived.Test.YtjglmjdfndcmmaaGreatZp04
import Derived.Test.YtjglmjdfndcmmaaGreatZp07
import Derived.Test.YtjglmjdfndcmmaaGreatZp08
set_option linter.all false
set_option linter.all false
namespace Go.Proofs.YtjglmjdfndcmmaaGreat
open Go.RowKit
theorem num_high' (m : Nat) : (m : Int) % 128 + 128 = ((UInt8.ofNat (m % 128 + 128)).toNat : Int) := by
  rw [UInt8.toNat_ofNat']; omega
set_option maxHeartbeats 1000000 in
set_option maxRecDepth 100000 in
theorem numR (n base : Nat) (v : Value) (l : List UInt8) (w : World) (hn : n < 9223372036854775808) (hown : OwnC w base v l) (hb : base ≤ w.heap.size) (hl : l.length + (arNum n).length ≤ 9000000) :
    Calls Tryz.prog 47 #[v, .int .i64 (n : Int)] w (RetAdd base w v (l ++ arNum n)) := by
  have HH := Lib.hid (Adds.refl hown)
  clear hown
  go_enter Tryz.func47, Tryz.ntmps47
  go_wp2_with fail
  go_loopw [0, 1] (fun sv nv wr => ∃ (m : Nat) (d : List UInt8), nv = .int .i64 (m : Int) ∧ m ≤ n ∧ arNum n = d ++ arNum m ∧ Adds base w v (l ++ d) wr sv) (fun _ nv _ => (intOf nv).toNat)
  case atStart => exact ⟨n, [], rfl, Nat.le_refl _, rfl, by simpa using HH.out⟩
  case round =>
    obtain ⟨m, d, rfl, hm, he, ha⟩ := hrel
    have HE := Lib.hid he
    have hp := arNum_pos m
    rw [he, List.length_append] at hl
    have hown := ha.own
    have hsz := ha.grown.size
    have hlen : (l ++ d).length < 10000000 := by rw [List.length_append]; omega
    have HA := Lib.hid ha
    clear he ha hl hp
    by_cases h : m < 128
    · have HZ := Lib.hid (num_low h)
      have HX := Lib.hid (arNum_one h)
      go_wp2_with (at_builtin; refine wpList_pushC rfl (.tmp 16) (.tmp 19) rfl (UInt8.ofNat m) _ HZ.out rfl hown rfl hlen (by omega) ?_; intro v' w' hA)
      go_ret
      refine ⟨_, rfl, ?_⟩
      have := HA.out.trans hA
      rw [List.append_assoc] at this
      rw [HE.out, HX.out]
      exact this
    · have HZ := Lib.hid (num_high' m)
      have HX := Lib.hid (arNum_more h)
      go_wp2_with (at_builtin; refine wpList_pushC rfl (.tmp 7) (.tmp 12) rfl (UInt8.ofNat (m % 128 + 128)) _ HZ.out rfl hown rfl hlen (by omega) ?_; intro v' w' hA)
      go_roundw
      case rel =>
        refine ⟨m / 128, d ++ [UInt8.ofNat (m % 128 + 128)], by go_num, by omega, ?_, ?_⟩
        · rw [HE.out, HX.out]; simp
        · rw [← List.append_assoc]
          exact HA.out.trans hA
      case measure => simp [intOf]; omega
set_option maxHeartbeats 1000000 in
set_option maxRecDepth 100000 in
theorem textR (s : ByteArray) (base : Nat) (v : Value) (l : List UInt8) (w : World) (hs : s.size < 1000000) (hown : OwnC w base v l) (hb : base ≤ w.heap.size) (hl : l.length + (arText s.data.toList).length ≤ 9000000) :
    Calls Tryz.prog 71 #[v, .string s] w (RetAdd base w v (l ++ arText s.data.toList)) := by
  have hz := size_eq s
  have hX : arText s.data.toList = arNum s.size ++ s.data.toList := by unfold arText; rw [hz]
  have hle : (arText s.data.toList).length = (arNum s.size).length + s.size := by rw [hX, List.length_append, hz]
  rw [hle] at hl
  have HC := Lib.hid (numR s.size base v l w (by omega) hown hb (by omega))
  have HX := Lib.hid hX
  have hll : (l ++ arNum s.size).length + s.size ≤ 9000000 := by rw [List.length_append]; omega
  have HZ := Lib.hid hz
  clear hX hle hown hl hz
  go_enter Tryz.func71, Tryz.ntmps71
  go_wp2_with fail
  (with_reducible refine HC.out.mono ?_)
  rintro e w1 ⟨v1, rfl, hA⟩
  have HA := Lib.hid hA
  have hsz := hA.grown.size
  clear hA
  go_wp2_with fail
  go_loopw [0, 5] (fun sv iv wr => ∃ i : Nat, iv = .int .i64 (i : Int) ∧ i ≤ s.size ∧ Hid (Adds base w v ((l ++ arNum s.size) ++ s.data.toList.take i) wr sv)) (fun _ iv _ => s.size - (intOf iv).toNat)
  case atStart => exact ⟨0, rfl, Nat.zero_le _, Lib.hid (by simpa using HA.out)⟩
  case round =>
    obtain ⟨i, rfl, hi, ha⟩ := hrel
    have hsz2 := ha.out.grown.size
    by_cases hlt : i < s.size
    · have hown := ha.out.own
      have hlen : ((l ++ arNum s.size) ++ s.data.toList.take i).length < 10000000 := by
        rw [List.length_append, List.length_take]; omega
      have hget : s.data.toList[i]? = some (s.data[i]'(by have := HZ.out; simpa using hlt)) := by simp
      go_wp2_with (at_builtin; refine wpList_pushC rfl (.tmp 16) (.tmp 20) rfl (s.data[i]'(by have := HZ.out; simpa using hlt)) _ rfl rfl hown rfl hlen (by omega) ?_; intro v' w' hA)
      go_roundw
      case rel =>
        refine ⟨i + 1, by go_num, by omega, Lib.hid ?_⟩
        have := ha.out.trans hA
        rw [List.append_assoc] at this
        rw [List.take_add_one, hget]
        exact this
      case measure => simp [intOf]; omega
    · obtain rfl : i = s.size := by omega
      go_wp2_with fail
      go_ret
      refine ⟨_, rfl, ?_⟩
      rw [HX.out, ← List.append_assoc]
      have := ha.out
      rw [← HZ.out, List.take_length] at this
      rw [HZ.out] at this
      exact this
set_option maxHeartbeats 1000000 in
set_option maxRecDepth 100000 in
theorem valueR (x : Val) (base : Nat) (v : Value) (l : List UInt8) (w : World) (hv : validV x = true) (hown : OwnC w base v l) (hb : base ≤ w.heap.size) (hl : l.length + (arVal x).length ≤ 9000000) :
    Calls Tryz.prog 74 #[v, valV x] w (RetAdd base w v (l ++ arVal x)) := by
  have hN : ∀ c : Array Value, OwnC (w.alloc (.cells c 62)) base v l := fun c => hown.now (bone w _)
  unfold valV
  rcases val_parts hv with ⟨hk, hn, -⟩ | ⟨hk, h1, h2, -⟩ | ⟨hk, -, hs, -⟩
  · have hX := arVal1 hk
    rw [hX, List.length_append] at hl
    have HX := Lib.hid hX
    clear hX
    obtain ⟨m, hm⟩ : ∃ m : Nat, x.n = m := ⟨x.n.toNat, by omega⟩
    have hm2 : x.n.toNat = m := by omega
    have hm1 : m < 2 := by omega
    rw [hk, hm]
    rw [hm2] at HX hl
    have hc := numR 1 base v l _ (by omega) (hN #[.int .i64 1, .int .i64 m, .string x.s]) (by simp; omega) (by omega)
    rw [show ((1 : Nat) : Int) = 1 from rfl] at hc
    have HC := Lib.hid hc
    have hB := Blk.new w 62 #[.int .i64 1, .int .i64 m, .string x.s]
    have hc3 := hB.c3
    have H0 := Lib.hid (hN #[.int .i64 1, .int .i64 m, .string x.s])
    clear hc hN hown hk hm hm2 hn hv
    go_enter Tryz.func74, Tryz.ntmps74
    go_wp2_with fail
    (with_reducible refine HC.out.mono ?_)
    rintro e w1 ⟨v1, rfl, hA⟩
    have hB1 := hA.keep H0.out hB (by decide)
    have hc31 := hB1.c3
    have HC2 := Lib.hid (numR m base v1 (l ++ arNum 1) w1 (by omega) hA.own (by have := hA.grown.size; simp at this; omega) (by rw [List.length_append]; omega))
    clear hB hB1 hc3
    go_wp2_with fail
    (with_reducible refine HC2.out.mono ?_)
    rintro e w2 ⟨v2, rfl, hA2⟩
    go_wp2_with fail
    go_ret
    refine ⟨_, rfl, ?_⟩
    rw [HX.out, ← List.append_assoc]
    exact Adds.pre (bone w _) (hA.trans hA2)
  · have hX := arVal2 hk
    rw [hX, List.length_append] at hl
    have HX := Lib.hid hX
    clear hX
    rw [hk]
    have hc := numR 2 base v l _ (by omega) (hN #[.int .i64 2, .int .i64 x.n, .string x.s]) (by simp; omega) (by omega)
    rw [show ((2 : Nat) : Int) = 2 from rfl] at hc
    have HC := Lib.hid hc
    have hz : zigZ x.n < 9223372036854775808 := by unfold zigZ; split <;> omega
    have hB := Blk.new w 62 #[.int .i64 2, .int .i64 x.n, .string x.s]
    obtain ⟨hc1, hc2, hc3⟩ := hB.c3
    have H0 := Lib.hid (hN #[.int .i64 2, .int .i64 x.n, .string x.s])
    by_cases hneg : x.n < 0
    · have HZ : Hid ((zigZ x.n : Int) = -(2 * x.n) - 1) := by show _ = _; unfold zigZ; rw [if_pos hneg]; omega
      have w1 : IntKind.i64.wrap (2 * x.n) = 2 * x.n := i64wrap (by omega)
      have w2 : IntKind.i64.wrap (0 - 2 * x.n) = 0 - 2 * x.n := i64wrap (by omega)
      have w3 : IntKind.i64.wrap (0 - 2 * x.n - 1) = 0 - 2 * x.n - 1 := i64wrap (by omega)
      clear hc hN hown hk hv
      generalize zigZ x.n = z at *
      go_enter Tryz.func74, Tryz.ntmps74
      go_wp2_with fail
      (with_reducible refine HC.out.mono ?_)
      rintro e w1 ⟨v1, rfl, hA⟩
      have hB1 := hA.keep H0.out hB (by decide)
      obtain ⟨hc11, hc21, hc31⟩ := hB1.c3
      have HC2 := Lib.hid (numR z base v1 (l ++ arNum 2) w1 hz hA.own (by have := hA.grown.size; simp at this; omega) (by rw [List.length_append]; omega))
      rw [HZ.out] at HC2
      clear hB hB1 hc1 hc2 hc3
      go_wp2_with fail
      (with_reducible refine HC2.out.mono ?_)
      rintro e w2 ⟨v2, rfl, hA2⟩
      go_wp2_with fail
      go_ret
      refine ⟨_, rfl, ?_⟩
      rw [HX.out, ← List.append_assoc]
      exact Adds.pre (bone w _) (hA.trans hA2)
    · have HZ : Hid ((zigZ x.n : Int) = 2 * x.n) := by show _ = _; unfold zigZ; rw [if_neg hneg]; omega
      clear hc hN hown hk hv
      generalize zigZ x.n = z at *
      go_enter Tryz.func74, Tryz.ntmps74
      go_wp2_with fail
      (with_reducible refine HC.out.mono ?_)
      rintro e w1 ⟨v1, rfl, hA⟩
      have hB1 := hA.keep H0.out hB (by decide)
      obtain ⟨hc11, hc21, hc31⟩ := hB1.c3
      have HC2 := Lib.hid (numR z base v1 (l ++ arNum 2) w1 hz hA.own (by have := hA.grown.size; simp at this; omega) (by rw [List.length_append]; omega))
      rw [HZ.out] at HC2
      clear hB hB1 hc1 hc2 hc3
      go_wp2_with fail
      (with_reducible refine HC2.out.mono ?_)
      rintro e w2 ⟨v2, rfl, hA2⟩
      go_wp2_with fail
      go_ret
      refine ⟨_, rfl, ?_⟩
      rw [HX.out, ← List.append_assoc]
      exact Adds.pre (bone w _) (hA.trans hA2)
  · have hX := arVal3 hk
    rw [hX, List.length_append] at hl
    have HX := Lib.hid hX
    clear hX
    rw [hk]
    have hc := numR 3 base v l _ (by omega) (hN #[.int .i64 3, .int .i64 x.n, .string x.s]) (by simp; omega) (by omega)
    rw [show ((3 : Nat) : Int) = 3 from rfl] at hc
    have HC := Lib.hid hc
    have hB := Blk.new w 62 #[.int .i64 3, .int .i64 x.n, .string x.s]
    have hc3 := hB.c3
    have H0 := Lib.hid (hN #[.int .i64 3, .int .i64 x.n, .string x.s])
    clear hc hN hown hk hv
    go_enter Tryz.func74, Tryz.ntmps74
    go_wp2_with fail
    (with_reducible refine HC.out.mono ?_)
    rintro e w1 ⟨v1, rfl, hA⟩
    have hB1 := hA.keep H0.out hB (by decide)
    have hc31 := hB1.c3
    have HC2 := Lib.hid (textR x.s base v1 (l ++ arNum 3) w1 (by omega) hA.own (by have := hA.grown.size; simp at this; omega) (by rw [List.length_append]; omega))
    clear hB hB1 hc3
    go_wp2_with fail
    (with_reducible refine HC2.out.mono ?_)
    rintro e w2 ⟨v2, rfl, hA2⟩
    go_wp2_with fail
    go_ret
    refine ⟨_, rfl, ?_⟩
    rw [HX.out, ← List.append_assoc]
    exact Adds.pre (bone w _) (hA.trans hA2)
end Go.Proofs.YtjglmjdfndcmmaaGreat

set_option linter.all false
namespace Go.Proofs.YtjglmjdfndcmmaaGreat
open Go.RowKit
def cellN (x : Nat) : List Value := [.int .i64 (x : Int)]
theorem cellN_one (x : Nat) : ∀ u ∈ cellN x, u.oneCell' = true := by intro u hu; simp [cellN] at hu; subst hu; rfl
abbrev OwnN (w : World) (base : Nat) (v : Value) (l : List Nat) : Prop := OwnW 1 cellN w base 3 v l
theorem flatN (l : List Nat) : flat cellN l = l.map fun x => .int .i64 (x : Int) := by
  unfold flat cellN
  induction l with
  | nil => rfl
  | cons a l ih => rw [List.flatMap_cons, ih]; rfl
theorem OwnN.isSlice {w : World} {base : Nat} {v : Value} {l : List Nat} (h : OwnN w base v l) : ∃ A c, v = .slice A l.length c := by
  rcases h.2 with ⟨rfl, h0⟩ | ⟨g, cap, cur, rfl, _⟩
  · exact ⟨none, 0, by rw [h0]⟩
  · exact ⟨some ⟨g, 0, none⟩, cap, rfl⟩
theorem OwnN.keepX {w w' : World} {base : Nat} {v : Value} {l : List Nat} (h : OwnN w base v l) (k : KeepX w w') : OwnN w' base v l :=
  own_same h fun g hg => by
    obtain ⟨cs, fz, hc⟩ := Lib.ownsRow_kind h g hg
    exact k.same g (Array.getElem?_eq_some_iff.1 hc).1 (fun c f e => by
      rw [hc] at e
      injection e with e
      injection e with _ e2 _
      exact absurd e2 (by decide))
theorem OwnN.cell {w : World} {base g c : Nat} {l : List Nat} (h : OwnN w base (.slice (some ⟨g, 0, none⟩) l.length c) l) {k x : Nat} (hx : l[k]? = some x) : w.cell? ⟨g, k, none⟩ = some (.int .i64 (x : Int)) := by
  have hk : k < l.length := (List.getElem?_eq_some_iff.1 hx).1
  have := World.ownsRow.cellAt h k (by rw [Nat.mul_one]; exact hk)
  refine Eq.trans this ?_
  rw [flatN, List.getElem?_map, hx]; rfl
theorem OwnN.at_ {w : World} {base n c : Nat} {A : Option Addr} {l : List Nat} (h : OwnN w base (.slice A n c) l) {k : Nat} (hk : k < l.length) :
    ∃ g x, A = some ⟨g, 0, none⟩ ∧ n = l.length ∧ l[k]? = some x ∧ g < w.heap.size ∧ base ≤ g := by
  obtain ⟨g, cap, hv, _, hgb, hgs⟩ := OwnW.form h (by omega)
  injection hv with e1 e2 e3
  exact ⟨g, l[k], e1, e2, List.getElem?_eq_getElem hk, hgs, hgb⟩
set_option maxHeartbeats 2000000 in
set_option maxRecDepth 100000 in
theorem runsR (vals : List Nat) (u : Value) (bu base : Nat) (v : Value) (l : List UInt8) (w : World) (hf : ∀ x ∈ vals, x < 1000000000) (hu : OwnN w bu u vals) (hown : OwnC w base v l) (hb : base ≤ w.heap.size)
    (hn : vals.length ≤ 1000000) (hl : l.length + (arRuns vals).length ≤ 9000000) :
    Calls Tryz.prog 73 #[v, u] w (RetAdd base w v (l ++ arRuns vals)) := by
  obtain ⟨A, c, rfl⟩ := OwnN.isSlice hu
  have HU := Lib.hid hu
  have HF := Lib.hid hf
  have H0 := Lib.hid hown
  have HA0 := Lib.hid (Adds.refl hown)
  have HB := Lib.hid hb
  have HL := Lib.hid hl
  clear hu hf hown hb hl
  go_enter Tryz.func73, Tryz.ntmps73
  go_wp2_with fail
  go_loopw [0, 5] (fun sv iv wr => ∃ (i : Nat) (d : List UInt8), iv = .int .i64 (i : Int) ∧ i ≤ vals.length ∧ Hid (arRuns vals = d ++ arRuns (vals.drop i)) ∧ Hid (Adds base w v (l ++ d) wr sv)) (fun _ iv _ => vals.length - (intOf iv).toNat)
  case atStart => exact ⟨0, [], rfl, Nat.zero_le _, Lib.hid rfl, Lib.hid (by simpa using HA0.out)⟩
  case round =>
    obtain ⟨i, d, rfl, hi, HD, HA⟩ := hrel
    obtain ⟨wo, rfl⟩ : ∃ wo, wo = wr := ⟨wr, rfl⟩
    by_cases hlt : i < vals.length
    · have HUr : Hid (OwnN wo bu (.slice A vals.length c) vals) := Lib.hid (OwnN.keepX HU.out (HA.out.keepX H0.out))
      obtain ⟨g, x, rfl, _, hxi, hg, hgb⟩ := OwnN.at_ HUr.out hlt
      have HVI := Lib.hid hxi
      have a0 := HUr.out.cell hxi
      have hszr := Nat.le_trans HB.out HA.out.grown.size
      clear hxi
      go_wp2_with fail
      go_loopw [6] (fun kv wr => ∃ k' : Nat, kv = .int .i64 (k' : Int) ∧ i ≤ k' ∧ k' ≤ vals.length ∧ Hid (∀ j, i ≤ j → j < k' → vals[j]? = some x) ∧ Below wo.heap.size wo wr) (fun kv _ => vals.length - (intOf kv).toNat)
      case atStart => exact ⟨i, rfl, Nat.le_refl _, hi, Lib.hid (fun j h1 h2 => absurd h1 (by omega)), Below.refl _ _⟩
      case round =>
        obtain ⟨k', rfl, hik, hk, HK, hbi⟩ := hrel
        have hgi : g < wr.heap.size := Nat.lt_of_lt_of_le hg hbi.size
        go_upto_region 4 with fail
        go_cut [26] from 12 to 26 (fun v W => v = .bool (decide (vals[k']? = some x)) ∧ Below wr.heap.size wr W)
        case first =>
          by_cases hlk : k' < vals.length
          · obtain ⟨_, y, -, -, hxk, -, -⟩ := OwnN.at_ HUr.out hlk
            have c0 := HUr.out.cell hxk
            have HQ : Hid (decide (vals[k']? = some x) = decide (y = x)) := by
              show _ = _
              rw [hxk]
              simp
            have hq : ((y : Int) == (x : Int)) = decide (y = x) := by
              by_cases hh : y = x
              · rw [hh]; simp
              · have h2 : ¬ (y : Int) = (x : Int) := by omega
                simp [hh, h2]
            generalize decide (y = x) = q at *
            generalize decide (vals[k']? = some x) = q' at *
            have z1 : decide ((k' : Int) < (vals.length : Int)) = true := by simp; omega
            have z2 : (0 : Int) ≤ (k' : Int) := by omega
            have z3 : (k' : Int) < (vals.length : Int) := by omega
            have z4 : (0 : Int) ≤ (i : Int) := by omega
            have z5 : (i : Int) < (vals.length : Int) := by omega
            have ti0 : ∀ W, (ext wr W).cell? ⟨g, i, none⟩ = some (.int .i64 (x : Int)) := fun W => ((ext_below wr W).cell (p := ⟨g, i, none⟩) hgi).trans ((hbi.cell (p := ⟨g, i, none⟩) hg).trans a0)
            have tk0 : ∀ W, (ext wr W).cell? ⟨g, k', none⟩ = some (.int .i64 (y : Int)) := fun W => ((ext_below wr W).cell (p := ⟨g, k', none⟩) hgi).trans ((hbi.cell (p := ⟨g, k', none⟩) hg).trans c0)
            clear a0 c0 hxk
            refine wp_region_growV (by kernel_rfl) (by kernel_rfl) ?_
            repeat (refine veil_step (fun K hK => ?_); go_simp; (refine hK _ ?_; clear hK K))
            refine veil_nil ?_
            intro _ hw'
            obtain ⟨W, rfl⟩ := hw'
            go_wp2_with fail
            go_meet
            exact ⟨by rw [HQ.out], ext_below wr W⟩
          · have HQ : Hid (decide (vals[k']? = some x) = false) := by
              show _ = _
              rw [List.getElem?_eq_none (by omega)]; rfl
            generalize decide (vals[k']? = some x) = q' at *
            have z1 : decide ((k' : Int) < (vals.length : Int)) = false := by simp; omega
            clear a0
            refine wp_region_growV (by kernel_rfl) (by kernel_rfl) ?_
            repeat (refine veil_step (fun K hK => ?_); go_simp; (refine hK _ ?_; clear hK K))
            refine veil_nil ?_
            intro _ hw'
            obtain ⟨W, rfl⟩ := hw'
            go_wp2_with fail
            go_meet
            exact ⟨by rw [HQ.out], ext_below wr W⟩
        obtain ⟨rfl, hb3⟩ := hcut
        generalize hq : decide (vals[k']? = some x) = q
        cases q
        · have hne : vals[k']? ≠ some x := by simpa using hq
          have hik2 : i < k' := by
            rcases Nat.lt_or_ge i k' with h | h
            · exact h
            · obtain rfl : k' = i := by omega
              exact absurd HVI.out hne
          have HST : Hid (arRuns (vals.drop i) = arNum x ++ arNum (k' - i) ++ arRuns (vals.drop k')) := Lib.hid (arRuns_step hik2 hk HK.out hne)
          have hroom : (l ++ d).length + (arNum x).length + (arNum (k' - i)).length ≤ 9000000 := by
            have h1 := HL.out
            rw [HD.out, HST.out] at h1
            simp only [List.length_append] at h1 ⊢
            omega
          have hfe : x < 1000000000 := HF.out x (List.mem_of_getElem? HVI.out)
          have hb03 := hbi.trans (hb3.mono hbi.size)
          rename_i wc
          have hsc := hb03.size
          have c0 := (hb03.cell (p := ⟨g, i, none⟩) hg).trans a0
          have hA3 := Lib.hid (HA.out.post hb03)
          have hc4 := numR x base _ _ wc (by omega) hA3.out.own (by omega) (by omega)
          have HC4 := Lib.hid hc4
          have HSZ := Lib.hid (And.intro hszr hsc)
          clear a0 hq hne hb3 hb03 hszr hsc hc4
          go_wp2_with fail
          (with_reducible refine HC4.out.mono ?_)
          rintro _ w5 ⟨v5, rfl, hA5⟩
          have hc5 := numR (k' - i) base _ _ w5 (by omega) hA5.own (by have := HSZ.out; have := hA5.grown.size; omega) (by simp only [List.length_append] at hroom ⊢; omega)
          rw [show ((k' - i : Nat) : Int) = (k' : Int) - (i : Int) by omega] at hc5
          have HC5 := Lib.hid hc5
          have HA5 := Lib.hid hA5
          clear hc5 hA5
          go_wp2_with fail
          (with_reducible refine HC5.out.mono ?_)
          rintro _ w6 ⟨v6, rfl, hA6⟩
          go_wp2_with fail
          go_roundw
          case rel =>
            refine ⟨k', d ++ arNum x ++ arNum (k' - i), rfl, hk, ?_, ?_⟩
            · refine Lib.hid ?_
              rw [HD.out, HST.out]
              simp only [List.append_assoc]
            · refine Lib.hid ?_
              have := (hA3.out.trans HA5.out).trans hA6
              simp only [List.append_assoc] at this ⊢
              exact this
          case measure => simp [intOf]; omega
        · have heq : vals[k']? = some x := by simpa using hq
          have hk2 : k' < vals.length := (List.getElem?_eq_some_iff.1 heq).1
          have HE := Lib.hid heq
          have hb03 := hbi.trans (hb3.mono hbi.size)
          clear hq heq
          go_wp2_with fail
          go_roundw
          case rel =>
            refine ⟨k' + 1, by go_num, by omega, by omega, Lib.hid fun j h1 h2 => ?_, hb03⟩
            rcases Nat.lt_or_ge j k' with h | h
            · exact HK.out j h1 h
            · obtain rfl : j = k' := by omega
              exact HE.out
          case measure => simp [intOf]; omega
    · obtain rfl : i = vals.length := by omega
      go_wp2_with fail
      go_ret
      refine ⟨_, rfl, ?_⟩
      have h1 := HD.out
      rw [List.drop_length, arRuns_nil, List.append_nil] at h1
      rw [h1]
      exact HA.out
end Go.Proofs.YtjglmjdfndcmmaaGreat

set_option linter.all false
namespace Go.Proofs.YtjglmjdfndcmmaaGreat
open Go.RowKit
theorem appNs : AppInfo Tryz.prog 95 3 1 := AppInfo.mk' (z := .int .i64 0) (bytes := 8) Tryz.underlying95 (by kernel_rfl) (by omega) rfl (by omega)
def atC (ws : List Bs) (k : Nat) (es : List Ev) : List Nat := (col k es).map ws.idxOf
def runsTo (ws : List Bs) (es : List Ev) (k : Nat) : List UInt8 := (List.range k).flatMap fun j => arRuns (atC ws j es)
theorem runsTo_succ (ws : List Bs) (es : List Ev) (k : Nat) : runsTo ws es (k + 1) = runsTo ws es k ++ arRuns (atC ws k es) := by
  unfold runsTo; rw [List.range_succ, List.flatMap_append]; simp
theorem atC_len (ws : List Bs) (k : Nat) (es : List Ev) : (atC ws k es).length = es.length := by unfold atC; rw [List.length_map, col_len]
theorem atC_lt {ws : List Bs} {k : Nat} {es : List Ev} : ∀ x ∈ atC ws k es, x ≤ ws.length := by
  intro x hx
  obtain ⟨s, _, rfl⟩ := List.mem_map.1 hx
  exact List.idxOf_le_length
theorem runsTo3 (ws : List Bs) (es : List Ev) : runsTo ws es 3 = arRuns (es.map fun e => atW ws e.cas) ++ arRuns (es.map fun e => atW ws e.act) ++ arRuns (es.map fun e => atW ws e.res) := by
  rw [runsTo_succ, runsTo_succ, runsTo_succ]
  have h0 : runsTo ws es 0 = [] := rfl
  have e0 : atC ws 0 es = es.map fun e => atW ws e.cas := List.map_map
  have e1 : atC ws 1 es = es.map fun e => atW ws e.act := List.map_map
  have e2 : atC ws 2 es = es.map fun e => atW ws e.res := List.map_map
  rw [h0, e0, e1, e2, List.nil_append]
theorem col_mem {k : Nat} {es : List Ev} {s : Bs} (h : s ∈ col k es) : s ∈ words es := by
  obtain ⟨e, he, rfl⟩ := List.mem_map.1 h
  refine words_mem.2 ⟨e, he, ?_⟩
  unfold colE
  split
  · exact .inl rfl
  · split
    · exact .inr (.inl rfl)
    · exact .inr (.inr rfl)
theorem value_agg (x : Val) (base : Nat) (v : Value) (l : List UInt8) (w : World) (hv : validV x = true) (hown : OwnC w base v l) (hb : base ≤ w.heap.size) (hl : l.length + (arVal x).length ≤ 9000000) :
    Calls Tryz.prog 74 #[v, .agg #[.int .i64 x.kind, .int .i64 x.n, .string x.s]] w (RetAdd base w v (l ++ arVal x)) := valueR x base v l w hv hown hb hl
theorem OwnN.now {w w' : World} {base : Nat} {v : Value} {l : List Nat} (h : OwnN w base v l) (hb : Below w.heap.size w w') : OwnN w' base v l := OwnW.now h hb
-- WALK
set_option maxHeartbeats 4000000 in
set_option maxRecDepth 100000 in
theorem blockR (es : List Ev) (u : Value) (base : Nat) (v : Value) (l : List UInt8) (w : World) (hu : SlEv (Lt base) w u es) (hok : ∀ e ∈ es, EvOk e) (hlen : es.length ≤ 100) (hmono : es.Pairwise fun a b => a.time ≤ b.time) (hown : OwnC w base v l) (hb : base ≤ w.heap.size)
    (hl : l.length + (arBlock es).length ≤ 9000000) :
    Calls Tryz.prog 48 #[v, u] w (RetAdd base w v (l ++ arBlock es)) := by
  obtain ⟨A, c, rfl, h1, h2, hs⟩ := hu.open_
  have HS := Lib.hid hs
  have HOK := Lib.hid hok
  have H0 := Lib.hid hown
  have HL := Lib.hid hl
  have HB := Lib.hid hb
  have HMO := Lib.hid hmono
  have HD1 := Lib.hid (dict_ref es _ w (SlEv.below hs (Below.refl _ _) hb) hlen)
  clear hmono hu hs hok hown hl hb
  go_enter Tryz.func48, Tryz.ntmps48
  go_wp2_with fail
  (with_reducible refine HD1.out.mono ?_)
  rintro _ w2 ⟨v2, rfl, hwd, hb02⟩
  have hwl := words_len es
  have HWS := Lib.hid (words_size HOK.out)
  obtain ⟨ws, hws⟩ : ∃ ws, words es = ws := ⟨_, rfl⟩
  have HWE := Lib.hid hws
  have hlb : Hid (arBlock es = arNum ws.length ++ ws.flatMap arText ++ (runsTo ws es 3 ++ arRuns (es.map fun e => e.life.toNat) ++ arTimes 0 es ++ es.flatMap arData)) := by
    refine Lib.hid ?_
    unfold arBlock
    rw [hws, runsTo3]
    simp only [List.append_assoc]
  have hCM : Hid (∀ k s, s ∈ col k es → s ∈ ws) := Lib.hid (fun k s h => by rw [← hws]; exact col_mem h)
  rw [hws] at hwd hwl HWS
  clear hws
  have hr1 : l.length + ((arNum ws.length).length + (ws.flatMap arText).length) ≤ 9000000 := by
    have := HL.out
    rw [hlb.out] at this
    simp only [List.length_append] at this ⊢
    omega
  obtain ⟨Av, cv, rfl, hv1, hv2, hsv⟩ := SlS.open_ (hwd.slS (fun s hs => by have := HWS.out s hs; unfold maxLen; omega))
  rw [List.length_map] at hwd hsv hv1 ⊢
  have HWd := Lib.hid hwd
  have HA2 := Lib.hid ((Adds.refl H0.out).post hb02)
  have HC8 := Lib.hid (numR ws.length base v l w2 (by omega) HA2.out.own (by have := hb02.size; have := HB.out; omega) (by omega))
  have HB02 := Lib.hid hb02
  clear hb02 hsv hwd HD1
  go_wp2_with fail
  (with_reducible refine HC8.out.mono ?_)
  rintro _ w3 ⟨v3, rfl, hA3⟩
  have HA3 : Hid (Adds base w v (l ++ arNum ws.length) w3 v3) := Lib.hid (HA2.out.trans hA3)
  have HW3 := Lib.hid (HWd.out.keepX (hA3.keepX HA2.out.own))
  clear hA3 HC8 HWd
  go_wp2_with fail
  go_loopw [0, 6] (fun sv kv wr => ∃ k : Nat, kv = .int .i64 (k : Int) ∧ k ≤ ws.length ∧ Hid (Adds base w v (l ++ arNum ws.length ++ (ws.take k).flatMap arText) wr sv) ∧ Hid (OwnS wr w.heap.size (.slice Av ws.length cv) ws)) (fun _ kv _ => ws.length - (intOf kv).toNat)
  case atStart => exact ⟨0, rfl, Nat.zero_le _, Lib.hid (by simpa using HA3.out), HW3⟩
  case round =>
    obtain ⟨k, rfl, hk, HA, HW⟩ := hrel
    obtain ⟨wo, rfl⟩ : ∃ wo, wo = wr := ⟨wr, rfl⟩
    by_cases hlt : k < ws.length
    · have hsv := HW.out.slS (fun s hs => by have := HWS.out s hs; unfold maxLen; omega)
      obtain ⟨b, o, x, rfl, hD, hx, hxs, hc⟩ := SlS.at_ (k := k) hsv hlt
      obtain ⟨s, hs, rfl⟩ : ∃ s, ws[k]? = some s ∧ mkS s = x := by
        rw [List.getElem?_map, Option.map_eq_some_iff] at hx
        exact hx
      have HT := Lib.hid (flat_next arText hs)
      have hft := flat_take arText hs
      have HCT := Lib.hid (textR (mkS s) base u0 (l ++ arNum ws.length ++ (ws.take k).flatMap arText) wo (by rw [mkS_size]; have := HWS.out s (List.mem_of_getElem? hs); omega) HA.out.own (by have := HA.out.grown.size; have := HB.out; omega) (by rw [mkS_data]; simp only [List.length_append]; omega))
      clear hsv hft hx hs
      go_wp2_with fail
      (with_reducible refine HCT.out.mono ?_)
      rintro _ w5 ⟨v5, rfl, hA5⟩
      have HX5 := Lib.hid (hA5.keepX HA.out.own)
      go_wp2_with fail
      go_roundw
      case rel =>
        refine ⟨k + 1, by go_num, by omega, Lib.hid ?_, Lib.hid (HW.out.keepX HX5.out)⟩
        rw [HT.out, ← List.append_assoc]
        exact HA.out.trans hA5
      case measure => simp [intOf]; omega
    · obtain rfl : k = ws.length := by omega
      rw [List.take_length] at HA
      obtain ⟨L0, hL0⟩ : ∃ L0, l ++ arNum ws.length ++ ws.flatMap arText = L0 := ⟨_, rfl⟩
      rw [hL0] at HA
      obtain ⟨c4, hc4⟩ : ∃ c4, arRuns (es.map fun e => e.life.toNat) = c4 := ⟨_, rfl⟩
      have hroom : L0.length + (runsTo ws es 3).length + c4.length + (arTimes 0 es).length + (es.flatMap arData).length ≤ 9000000 := by
        have h1 := HL.out
        rw [hlb.out, hc4] at h1
        rw [← hL0]
        simp only [List.length_append] at h1 ⊢
        omega
      have HLB : Hid (l ++ arBlock es = L0 ++ runsTo ws es 3 ++ c4 ++ arTimes 0 es ++ es.flatMap arData) := by
        refine Lib.hid ?_
        rw [hlb.out, hc4, ← hL0]
        simp only [List.append_assoc]
      have HC4 := Lib.hid hc4
      clear hL0 hc4 hlb hr1 hk hlt HA3 HW3
      go_wp2_with fail
      go_loopw [0, 7] (fun sv kv wr => ∃ k : Nat, kv = .int .i64 (k : Int) ∧ k ≤ 3 ∧ Hid (Adds base w v (L0 ++ runsTo ws es k) wr sv) ∧ Hid (OwnS wr w.heap.size (.slice Av ws.length cv) ws)) (fun _ kv _ => 3 - (intOf kv).toNat)
      case atStart => exact ⟨0, rfl, by omega, Lib.hid (by simpa [runsTo] using HA.out), HW⟩
      case round =>
        obtain ⟨k, rfl, hk, HA, HW⟩ := hrel
        obtain ⟨wo, rfl⟩ : ∃ wo, wo = wr := ⟨wr, rfl⟩
        by_cases hlt : k < 3
        · have hszo : base ≤ wo.heap.size := Nat.le_trans HB.out HA.out.grown.size
          have HCC := Lib.hid (column_ref k es (.slice A es.length c) wo hlt (SlEv.below HS.out (HA.out.below H0.out HB.out) hszo) (by omega))
          have hrk : (runsTo ws es k).length + (arRuns (atC ws k es)).length ≤ (runsTo ws es 3).length := by
            rcases (show k = 0 ∨ k = 1 ∨ k = 2 by omega) with rfl | rfl | rfl <;> simp only [runsTo_succ, List.length_append] <;> omega
          go_wp2_with fail
          (with_reducible refine HCC.out.mono ?_)
          rintro _ w8 ⟨v8, rfl, hc8, hb8⟩
          obtain ⟨Ac, cc, rfl, hcc1, hcc2, hsc⟩ := SlS.open_ (hc8.slS (col_fit (SlEv.fit HS.out)))
          rw [List.length_map, col_len] at hsc hcc1 ⊢
          have HSC := Lib.hid hsc
          have HA8 := Lib.hid (HA.out.post hb8)
          have hwn := OwnS.now HW.out hb8
          have HWL := Lib.hid (hwn.slS (fun s hs => by have := HWS.out s hs; unfold maxLen; omega))
          have HW8 := Lib.hid hwn
          have hsz8 : base ≤ w8.heap.size := Nat.le_trans hszo hb8.size
          clear hsc hc8 hb8 HCC hwn
          go_wp2_with fail
          go_loopw [9, 10] (fun ov iv wr => ∃ i : Nat, iv = .int .i64 (i : Int) ∧ i ≤ es.length ∧ Hid (OwnN wr w8.heap.size ov ((atC ws k es).take i)) ∧ Below w8.heap.size w8 wr) (fun _ iv _ => es.length - (intOf iv).toNat)
          case atStart => exact ⟨0, rfl, Nat.zero_le _, Lib.hid OwnW.nil, Below.refl _ _⟩
          case round =>
            obtain ⟨i, rfl, hi, HO, hbr⟩ := hrel
            obtain ⟨w9, rfl⟩ : ∃ w9, w9 = wr := ⟨wr, rfl⟩
            have hszr := hbr.size
            by_cases hlt : i < es.length
            · obtain ⟨b, o, x, rfl, hD, hx, hxs, hc⟩ := SlS.at_ (k := i) HSC.out hlt
              obtain ⟨s, hs, rfl⟩ : ∃ s, (col k es)[i]? = some s ∧ mkS s = x := by
                rw [List.getElem?_map, Option.map_eq_some_iff] at hx
                exact hx
              have c0 := (hbr.cell (p := ⟨b, o + i, none⟩) hD).trans hc
              have hsw : s ∈ ws := hCM.out k s (List.mem_of_getElem? hs)
              have hci := index_ref _ _ (mkS s) _ (HWL.out.now hbr)
              rw [atS_mem (ws := ws) (s := mkS s) hsw] at hci
              have HT : Hid ((atC ws k es).take (i + 1) = (atC ws k es).take i ++ [atW ws (mkS s)]) := Lib.hid (take_next (by unfold atC; rw [List.getElem?_map, hs]; rfl))
              generalize atW ws (mkS s) = z at *
              have HC := Lib.hid hci
              have HBr := Lib.hid hbr
              have hol : ((atC ws k es).take i).length < 10000000 := by rw [List.length_take]; omega
              clear hx hs hc hsw hbr hci
              go_wp2_with fail
              (with_reducible refine HC.out.mono ?_)
              rintro _ w10 ⟨rfl, rfl⟩
              go_wp2_with (at_builtin; refine wpList_pushW (fc := cellN) appNs rfl (.tmp 47) (.tmp 54) rfl w9 z ((atC ws k es).take i) rfl (cellN_one z) _ rfl HO.out rfl hol hszr ?_; intro v' w' hown' hgr hat)
              go_roundw
              case rel =>
                refine ⟨i + 1, by go_num, by omega, Lib.hid ?_, HBr.out.trans (below_of_grown hgr hszr (fun g hg => (World.ownsRow.lt HO.out g hg).1))⟩
                rw [HT.out]
                exact hown'
              case measure => simp [intOf]; omega
            · obtain rfl : i = es.length := by omega
              have ho := HO.out
              rw [List.take_of_length_le (by rw [atC_len]; exact Nat.le_refl _)] at ho
              have HA9 := Lib.hid (HA8.out.post hbr)
              have hcr := runsR (atC ws k es) u9 w8.heap.size base u0 (L0 ++ runsTo ws es k) w9 (fun x hx => by have := atC_lt x hx; omega) ho HA9.out.own (by omega) (by rw [atC_len]; omega) (by rw [List.length_append]; omega)
              have HCR := Lib.hid hcr
              have HW9 := Lib.hid (OwnS.now HW8.out hbr)
              clear ho hcr
              go_wp2_with fail
              (with_reducible refine HCR.out.mono ?_)
              rintro _ w11 ⟨v11, rfl, hA11⟩
              go_wp2_with fail
              go_roundw
              case rel =>
                refine ⟨k + 1, by go_num, by omega, Lib.hid ?_, Lib.hid (HW9.out.keepX (hA11.keepX HA9.out.own))⟩
                rw [runsTo_succ, ← List.append_assoc]
                exact HA9.out.trans hA11
              case measure => simp [intOf]; omega
        · have hk3 : k = 3 := by omega
          rw [hk3] at HA
          have z3 : ¬ (k : Int) < 3 := by omega
          clear HW hk hlt hk3
          go_wp2_with fail
          go_loopw [11, 12] (fun ov iv wr => ∃ i : Nat, iv = .int .i64 (i : Int) ∧ i ≤ es.length ∧ Hid (OwnN wr wo.heap.size ov ((es.map fun e => e.life.toNat).take i)) ∧ Below wo.heap.size wo wr) (fun _ iv _ => es.length - (intOf iv).toNat)
          case atStart => exact ⟨0, rfl, Nat.zero_le _, Lib.hid OwnW.nil, Below.refl _ _⟩
          case round =>
            obtain ⟨i, rfl, hi, HO, hbr⟩ := hrel
            obtain ⟨w9, rfl⟩ : ∃ w9, w9 = wr := ⟨wr, rfl⟩
            have hszr := hbr.size
            have HA9 := Lib.hid (HA.out.post hbr)
            by_cases hlt : i < es.length
            · obtain ⟨b, o, e, dv, rfl, hD, hx, hff, hdv, f0, f1, f2, f3, f4, f5⟩ := SlEv.at_ (SlEv.below HS.out (HA9.out.below H0.out HB.out) (Nat.le_refl _)) hlt
              have hlf := (HOK.out e (List.mem_of_getElem? hx)).life
              obtain ⟨z, hz⟩ : ∃ z : Nat, e.life = z := ⟨e.life.toNat, by omega⟩
              have HT : Hid ((es.map fun e => e.life.toNat).take (i + 1) = (es.map fun e => e.life.toNat).take i ++ [z]) := Lib.hid (take_next (by rw [List.getElem?_map, hx]; simp [hz]))
              rw [hz] at f3
              have hol : ((es.map fun e => e.life.toNat).take i).length < 10000000 := by rw [List.length_take]; omega
              have HBr := Lib.hid hbr
              clear hx hff hdv f0 f1 f2 f4 f5 hlf hz hbr
              go_wp2_with (at_builtin; refine wpList_pushW (fc := cellN) appNs rfl (.tmp 65) (.tmp 71) rfl w9 z ((es.map fun e => e.life.toNat).take i) rfl (cellN_one z) _ rfl HO.out rfl hol hszr ?_; intro v' w' hown' hgr hat)
              go_roundw
              case rel =>
                refine ⟨i + 1, by go_num, by omega, Lib.hid ?_, HBr.out.trans (below_of_grown hgr hszr (fun g hg => (World.ownsRow.lt HO.out g hg).1))⟩
                rw [HT.out]
                exact hown'
              case measure => simp [intOf]; omega
            · obtain rfl : i = es.length := by omega
              have ho := HO.out
              rw [List.take_of_length_le (by rw [List.length_map]; exact Nat.le_refl _)] at ho
              have hcr := runsR (es.map fun e => e.life.toNat) u11 wo.heap.size base u0 (L0 ++ runsTo ws es 3) w9 (fun x hx => by
                obtain ⟨e, he, rfl⟩ := List.mem_map.1 hx
                have := (HOK.out e he).life
                omega) ho HA9.out.own (by have := HA9.out.grown.size; have := HB.out; omega) (by rw [List.length_map]; omega) (by rw [HC4.out, List.length_append]; omega)
              rw [HC4.out] at hcr
              have HCR := Lib.hid hcr
              clear ho hcr hbr
              go_wp2_with fail
              (with_reducible refine HCR.out.mono ?_)
              rintro _ w14 ⟨v14, rfl, hA14⟩
              have HA14 : Hid (Adds base w v (L0 ++ runsTo ws es 3 ++ c4) w14 v14) := Lib.hid (HA9.out.trans hA14)
              obtain ⟨L4, hL4⟩ : ∃ L4, L0 ++ runsTo ws es 3 ++ c4 = L4 := ⟨_, rfl⟩
              rw [hL4] at HA14 HLB
              have hroom4 : L4.length + (arTimes 0 es).length + (es.flatMap arData).length ≤ 9000000 := by rw [← hL4]; simp only [List.length_append]; omega
              clear hroom hL4 HA HA9 HO HC4 HCR hA14 hi hlt hszr
              go_wp2_with fail
              go_loopw [0, 13] (fun sv kv wr => ∃ (k : Nat) (t : Int) (d : List UInt8), kv = .int .i64 (k : Int) ∧ k ≤ es.length ∧ Hid ((k = 0 → t = 0) ∧ (∀ j, j + 1 = k → ∀ e, es[j]? = some e → t = e.time) ∧ (0 ≤ t ∧ t ≤ 1099511627776) ∧ ∀ e, es[k]? = some e → t ≤ e.time) ∧ Hid (arTimes 0 es = d ++ arTimes t (es.drop k)) ∧ Hid (Adds base w v (L4 ++ d) wr sv)) (fun _ kv _ => es.length - (intOf kv).toNat)
              case atStart => exact ⟨0, 0, [], rfl, Nat.zero_le _, Lib.hid ⟨fun _ => rfl, fun j hj => absurd hj (by omega), by omega, fun e he => (HOK.out e (List.mem_of_getElem? he)).time.1⟩, Lib.hid rfl, Lib.hid (by simpa using HA14.out)⟩
              case round =>
                obtain ⟨k, t, d, rfl, hk, HT0, HTD, HA⟩ := hrel
                obtain ⟨w5, rfl⟩ : ∃ w5, w5 = wr := ⟨wr, rfl⟩
                have hsz5 : base ≤ w5.heap.size := Nat.le_trans HB.out HA.out.grown.size
                by_cases hlt : k < es.length
                · have hsl := SlEv.below HS.out (HA.out.below H0.out HB.out) (Nat.le_refl _)
                  obtain ⟨b, o, e, dv, rfl, hD, hx, hff, hdv, f0, f1, f2, f3, f4, f5⟩ := SlEv.at_ hsl hlt
                  have HX := Lib.hid hx
                  obtain ⟨ht1, ht2, ht3, ht4⟩ := HT0.out
                  have hte := ht4 e hx
                  have hto := (HOK.out e (List.mem_of_getElem? hx)).time
                  have hst : arTimes t (es.drop k) = arNum (e.time - t).toNat ++ arTimes e.time (es.drop (k + 1)) := by
                    have he : es[k] = e := by rw [List.getElem?_eq_getElem hlt] at hx; injection hx
                    rw [List.drop_eq_getElem_cons hlt, he, arTimes]
                  have hroom : (L4 ++ d).length + (arNum (e.time - t).toNat).length ≤ 9000000 := by
                    have h1 := hroom4
                    rw [HTD.out, hst] at h1
                    simp only [List.length_append] at h1 ⊢
                    omega
                  have HST := Lib.hid hst
                  have HREL : Hid (∀ (W : World) (v6 : Value), Adds base w5 u0 (L4 ++ d ++ arNum (e.time - t).toNat) W v6 → ∃ (k' : Nat) (t : Int) (d : List UInt8), Value.int .i64 ((k : Int) + 1) = .int .i64 (k' : Int) ∧ k' ≤ es.length ∧ Hid ((k' = 0 → t = 0) ∧ (∀ j, j + 1 = k' → ∀ e, es[j]? = some e → t = e.time) ∧ (0 ≤ t ∧ t ≤ 1099511627776) ∧ ∀ e, es[k']? = some e → t ≤ e.time) ∧ Hid (arTimes 0 es = d ++ arTimes t (es.drop k')) ∧ Hid (Adds base w v (L4 ++ d) W v6)) := by
                    refine Lib.hid fun W v6 hA6 => ⟨k + 1, e.time, d ++ arNum (e.time - t).toNat, by congr 1, by omega, Lib.hid ⟨fun h => absurd h (by omega), fun j hj e' he' => ?_, by omega, fun e' he' => ?_⟩, Lib.hid ?_, Lib.hid ?_⟩
                    · obtain rfl : j = k := by omega
                      rw [HX.out] at he'
                      injection he' with he'
                      rw [he']
                    · have h1 := List.pairwise_iff_getElem.1 HMO.out k (k + 1) hlt (List.getElem?_eq_some_iff.1 he').1 (by omega)
                      have h2 : es[k] = e := by have := HX.out; rw [List.getElem?_eq_getElem hlt] at this; injection this
                      have h3 := (List.getElem?_eq_some_iff.1 he').2
                      rw [h2, h3] at h1
                      exact h1
                    · rw [HTD.out, HST.out, List.append_assoc]
                    · rw [← List.append_assoc]
                      exact HA.out.trans hA6
                  by_cases hk0 : k = 0
                  · obtain rfl := ht1 hk0
                    have hc := numR (e.time - 0).toNat base u0 (L4 ++ d) w5 (by omega) HA.out.own hsz5 hroom
                    rw [show ((e.time - 0).toNat : Int) = e.time by omega] at hc
                    have HC := Lib.hid hc
                    have z0 : ((k : Int) == 0) = true := by simp [hk0]
                    have z1 : decide ((k : Int) = 0) = true := by simp [hk0]
                    have z2 : decide (k = 0) = true := by simp [hk0]
                    have z3 : (k == 0) = true := by simp [hk0]
                    clear hk0 hc hx hst hroom hff hdv hsl ht1 ht2 ht3 ht4 hte hto f0 f1 f2 f3 f5
                    go_wp2_with fail
                    (with_reducible refine HC.out.mono ?_)
                    rintro _ w6 ⟨v6, rfl, hA6⟩
                    go_wp2_with fail
                    go_roundw
                    case rel => exact HREL.out _ _ hA6
                    case measure => simp [intOf]; omega
                  · obtain ⟨j, hj⟩ : ∃ j, j + 1 = k := ⟨k - 1, by omega⟩
                    obtain ⟨b', o', p, dv', hA', hD', hx', hff', hdv', g0, g1, g2, g3, g4, g5⟩ := SlEv.at_ (k := j) hsl (by omega)
                    injection hA' with hA'
                    injection hA' with e1 e2 _
                    subst e1 e2
                    obtain rfl := ht2 j hj p hx'
                    have hc := numR (e.time - p.time).toNat base u0 (L4 ++ d) w5.drew (by omega) (HA.out.post ((Below.refl w5.heap.size w5).drew)).own hsz5 hroom
                    rw [show ((e.time - p.time).toNat : Int) = e.time - p.time by omega] at hc
                    have HC := Lib.hid hc
                    have HDR := Lib.hid ((Below.refl w5.heap.size w5).drew)
                    have HKP := Lib.hid (HREL.out)
                    have z0 : ((k : Int) == 0) = false := by simp [hk0]
                    have z1 : decide ((k : Int) = 0) = false := by simp [hk0]
                    have z2 : decide (k = 0) = false := by simp [hk0]
                    have z3 : (k == 0) = false := by simp [hk0]
                    have hwj : IntKind.i64.wrap ((k : Int) - 1) = (j : Int) := by rw [i64wrap (by omega)]; omega
                    have hwt : IntKind.i64.wrap (e.time - p.time) = e.time - p.time := i64wrap (by omega)
                    have y1 : (0 : Int) ≤ (j : Int) := by omega
                    have y2 : (j : Int) < (es.length : Int) := by omega
                    have y3 : (0 : Int) ≤ (k : Int) := by omega
                    have y4 : (k : Int) < (es.length : Int) := by omega
                    clear hk0 hj hc hx hst hroom hff hdv hsl ht1 ht2 ht3 ht4 hte hto f0 f1 f2 f3 f5 hx' hff' hdv' g0 g1 g2 g3 g5
                    go_upto_region 28 with fail
                    go_still_tail 13, (by kernel_rfl)
                    change wpList _ _ _ _ _ w5.drew
                    generalize hW : w5.drew = W at *
                    clear hW
                    go_wp2_with fail
                    (with_reducible refine HC.out.mono ?_)
                    rintro _ w6 ⟨v6, rfl, hA6⟩
                    go_wp2_with fail
                    go_roundw
                    case rel => exact HREL.out _ _ (Adds.pre HDR.out hA6)
                    case measure => simp [intOf]; omega
                · obtain rfl : k = es.length := by omega
                  have HTD2 : Hid (arTimes 0 es = d) := Lib.hid (by rw [HTD.out, List.drop_eq_nil_of_le (Nat.le_refl _)]; simp [arTimes])
                  obtain ⟨L5, hL5⟩ : ∃ L5, L4 ++ d = L5 := ⟨_, rfl⟩
                  rw [hL5] at HA
                  have HLB5 : Hid (l ++ arBlock es = L5 ++ es.flatMap arData) := Lib.hid (by rw [HLB.out, HTD2.out, hL5])
                  have hroom5 : L5.length + (es.flatMap arData).length ≤ 9000000 := by
                    rw [← hL5]
                    have h1 := hroom4
                    rw [HTD2.out] at h1
                    simp only [List.length_append]
                    omega
                  clear hroom4 HT0 HTD HTD2 HLB hL5 hk hlt HA14
                  go_wp2_with fail
                  go_loopw [0, 14] (fun sv kv wr => ∃ k : Nat, kv = .int .i64 (k : Int) ∧ k ≤ es.length ∧ Hid (Adds base w v (L5 ++ (es.take k).flatMap arData) wr sv)) (fun _ kv _ => es.length - (intOf kv).toNat)
                  case atStart => exact ⟨0, rfl, Nat.zero_le _, Lib.hid (by simpa using HA.out)⟩
                  case round =>
                    obtain ⟨k, rfl, hk, HAk⟩ := hrel
                    obtain ⟨w7, rfl⟩ : ∃ w7, w7 = wr := ⟨wr, rfl⟩
                    have hsz7 : base ≤ w7.heap.size := Nat.le_trans HB.out HAk.out.grown.size
                    by_cases hlt : k < es.length
                    · have hBk := HAk.out.below H0.out HB.out
                      obtain ⟨b, o, e, dv, rfl, hD, hx, hff, hdv, f0, f1, f2, f3, f4, f5⟩ := SlEv.at_ HS.out hlt
                      have HF5 := Lib.hid f5
                      replace f5 := (hBk.cell (p := ⟨b, o + k * 6 + 5, none⟩) hD).trans f5
                      obtain ⟨Ad, cd, rfl, hcd1, hcd2, hdv⟩ := hdv.open_
                      have hev := HOK.out e (List.mem_of_getElem? hx)
                      have HEV := Lib.hid hev
                      have HX := Lib.hid hx
                      have HDV := Lib.hid hdv
                      have hd8 := hev.len
                      have HFN := Lib.hid (flat_next arData hx)
                      have hft := flat_take arData hx
                      have hdd : (arData e).length = (arNum e.data.length).length + (e.data.flatMap arFld).length := by unfold arData; rw [List.length_append]
                      have hroom : (L5 ++ (es.take k).flatMap arData).length + (arNum e.data.length).length + (e.data.flatMap arFld).length ≤ 9000000 := by
                        rw [List.length_append]; omega
                      have HC := Lib.hid (numR e.data.length base u0 (L5 ++ (es.take k).flatMap arData) w7 (by omega) HAk.out.own hsz7 (by omega))
                      clear hx hff hdv hft hdd hev hBk f0 f1 f2 f3 f4
                      go_wp2_with fail
                      (with_reducible refine HC.out.mono ?_)
                      rintro _ w8 ⟨v8, rfl, hA8⟩
                      have HA8 := Lib.hid (HAk.out.trans hA8)
                      obtain ⟨L6, hL6⟩ : ∃ L6, L5 ++ (es.take k).flatMap arData ++ arNum e.data.length = L6 := ⟨_, rfl⟩
                      rw [hL6] at HA8
                      have hroom6 : L6.length + (e.data.flatMap arFld).length ≤ 9000000 := by rw [← hL6, List.length_append]; omega
                      have HL6 := Lib.hid hL6
                      clear hL6 hA8 HC f5 hroom
                      go_wp2_with fail
                      go_loopw [0, 15] (fun sv jv wr => ∃ j : Nat, jv = .int .i64 (j : Int) ∧ j ≤ e.data.length ∧ Hid (Adds base w v (L6 ++ (e.data.take j).flatMap arFld) wr sv)) (fun _ jv _ => e.data.length - (intOf jv).toNat)
                      case atStart => exact ⟨0, rfl, Nat.zero_le _, Lib.hid (by simpa using HA8.out)⟩
                      case round =>
                        obtain ⟨j, rfl, hj, HAj⟩ := hrel
                        obtain ⟨w9, rfl⟩ : ∃ w9, w9 = wr := ⟨wr, rfl⟩
                        have HBj := Lib.hid (HAj.out.below H0.out HB.out)
                        have q5 := (HBj.out.cell (p := ⟨b, o + k * 6 + 5, none⟩) hD).trans HF5.out
                        have hsz9 : base ≤ w9.heap.size := Nat.le_trans HB.out HAj.out.grown.size
                        by_cases hjt : j < e.data.length
                        · obtain ⟨b', o', f, rfl, hD', hxf, hff, g0, g1, g2, g3⟩ := SlFl.at_ HDV.out hjt
                          obtain ⟨hfn, hfv⟩ := fld_parts (flds_mem HEV.out.flds f (List.mem_of_getElem? hxf))
                          have HFV := Lib.hid hfv
                          have hfs := (name_size hfn).2
                          have HFN2 := Lib.hid (flat_next arFld hxf)
                          have hft := flat_take arFld hxf
                          have hdd : (arFld f).length = (arText f.nm.data.toList).length + (arVal f.v).length := by unfold arFld; rw [List.length_append]
                          have hroom7 : (L6 ++ (e.data.take j).flatMap arFld).length + (arText f.nm.data.toList).length + (arVal f.v).length ≤ 9000000 := by rw [List.length_append]; omega
                          have HFD : Hid (arFld f = arText f.nm.data.toList ++ arVal f.v) := Lib.hid rfl
                          have HSS : Hid (∀ W, Below base w W → W.cell? ⟨b, o + k * 6 + 5, none⟩ = some (.slice (some ⟨b', o', none⟩) e.data.length cd) ∧ W.cell? ⟨b', o' + j * 4, none⟩ = some (.string f.nm) ∧ W.cell? ⟨b', o' + j * 4 + 1, none⟩ = some (.int .i64 f.v.kind) ∧ W.cell? ⟨b', o' + j * 4 + 2, none⟩ = some (.int .i64 f.v.n) ∧ W.cell? ⟨b', o' + j * 4 + 3, none⟩ = some (.string f.v.s)) :=
                            Lib.hid fun W hW => ⟨(hW.cell (p := ⟨b, o + k * 6 + 5, none⟩) hD).trans HF5.out, (hW.cell (p := ⟨b', o' + j * 4, none⟩) hD').trans g0, (hW.cell (p := ⟨b', o' + j * 4 + 1, none⟩) hD').trans g1, (hW.cell (p := ⟨b', o' + j * 4 + 2, none⟩) hD').trans g2, (hW.cell (p := ⟨b', o' + j * 4 + 3, none⟩) hD').trans g3⟩
                          have HA9 : Hid (Adds base w v (L6 ++ (e.data.take j).flatMap arFld) w9.drew u0) := Lib.hid (HAj.out.post ((Below.refl _ _).drew))
                          have HCT := Lib.hid (textR f.nm base u0 (L6 ++ (e.data.take j).flatMap arFld) w9.drew (by omega) HA9.out.own hsz9 (by omega))
                          have hbd : Below base w w9.drew := HA9.out.below H0.out HB.out
                          clear hxf hff hft hdd hfn hfv g0 g1 g2 g3
                          obtain ⟨a0, a1, a2, a3, a4⟩ := HSS.out _ hbd
                          go_upto_region 36 with fail
                          go_region_held3 (fun W => W.cell? ⟨b, o + k * 6 + 5, none⟩ = some (.slice (some ⟨b', o', none⟩) e.data.length cd) ∧ W.cell? ⟨b', o' + j * 4, none⟩ = some (.string f.nm) ∧ W.cell? ⟨b', o' + j * 4 + 1, none⟩ = some (.int .i64 f.v.kind) ∧ W.cell? ⟨b', o' + j * 4 + 2, none⟩ = some (.int .i64 f.v.n) ∧ W.cell? ⟨b', o' + j * 4 + 3, none⟩ = some (.string f.v.s)) (first | exact HSS.out _ (by assumption))
                            (first | (go_at_call 71; (with_reducible refine HCT.out.mono ?_); rintro _ w11 ⟨v11, rfl, hA11⟩; have HA11 := Lib.hid (HA9.out.trans hA11); have hb11 := HA11.out.below H0.out HB.out; have hdt := Lib.hid (value_agg f.v base v11 (L6 ++ (e.data.take j).flatMap arFld ++ arText f.nm.data.toList) w11 HFV.out hA11.own (Nat.le_trans hsz9 hA11.grown.size) (by rw [List.length_append]; omega))) | (go_at_call 74; (with_reducible refine hdt.out.mono ?_); rintro _ w12 ⟨v12, rfl, hA12⟩; have HA12 := Lib.hid (HA11.out.trans hA12); have hb12 := HA12.out.below H0.out HB.out))
                          all_goals
                            clear HCT
                            go_wp2_with fail
                            go_roundw
                            case rel =>
                              refine ⟨j + 1, by go_num, by omega, Lib.hid ?_⟩
                              rw [HFN2.out, HFD.out]
                              have := HA12.out
                              simp only [List.append_assoc] at this ⊢
                              exact this
                            case measure => simp [intOf]; omega
                        · obtain rfl : j = e.data.length := by omega
                          rw [List.take_length] at HAj
                          go_wp2_with fail
                          go_roundw
                          case rel =>
                            refine ⟨k + 1, by go_num, by omega, Lib.hid ?_⟩
                            have := HAj.out
                            rw [← HL6.out] at this
                            rw [HFN.out]
                            unfold arData
                            simp only [List.append_assoc] at this ⊢
                            exact this
                          case measure => simp [intOf]; omega
                    · obtain rfl : k = es.length := by omega
                      rw [List.take_length] at HAk
                      go_wp2_with fail
                      go_ret
                      exact ⟨_, rfl, by rw [HLB5.out]; exact HAk.out⟩
end Go.Proofs.YtjglmjdfndcmmaaGreat

set_option linter.all false
namespace Go.Proofs.YtjglmjdfndcmmaaGreat
open Go.RowKit
def evCells (e : Ev) (dv : Value) : List Value := [.string e.cas, .string e.act, .string e.res, .int .i64 e.life, .int .i64 e.time, dv]
def EvF (w : World) (g N : Nat) (ev : Nat → Ev) (D : Nat → Prop) : Prop := ∃ (cs : Array Value) (dv : Nat → Value), Blk w g 57 cs ∧ N * 6 ≤ cs.size ∧ ∀ j, j < N → FitEv (ev j) ∧ (SlFl D w (dv j) (ev j).data ∧ ((ev j).data = [] → dv j = .slice none 0 0)) ∧ ∀ k u, (evCells (ev j) (dv j))[k]? = some u → cs[j * 6 + k]? = some u
def upd (ev : Nat → Ev) (j : Nat) (e : Ev) : Nat → Ev := fun i => if i = j then e else ev i
theorem upd_same (ev : Nat → Ev) (j : Nat) (e : Ev) : upd ev j e j = e := if_pos rfl
theorem upd_ne {ev : Nat → Ev} {j i : Nat} {e : Ev} (h : i ≠ j) : upd ev j e i = ev i := if_neg h
def Dn (L g R : Nat) : Nat → Prop := fun b => b < L ∧ b ≠ g ∧ R < b
theorem Dn.ner {L g R b : Nat} (h : Dn L g R b) : b ≠ R := Nat.ne_of_gt h.2.2
def Two (R g : Nat) : Nat → Prop := fun i => i = R ∨ i = g
theorem evCells_lt {e : Ev} {dv u : Value} {k : Nat} (h : (evCells e dv)[k]? = some u) : k < 6 := (List.getElem?_eq_some_iff.1 h).1
theorem EvF.set {w : World} {g N j k : Nat} {ev : Nat → Ev} {D D' : Nat → Prop} {u : Value} {e' : Ev} (h : EvF w g N ev D) (hj : j < N) (hk : k < 6) (hg : ¬ D g) (hD : ∀ b, D b → D' b)
    (hc : ∀ dv, SlFl D w dv (ev j).data → ((ev j).data = [] → dv = .slice none 0 0) → ∃ dv', evCells e' dv' = (evCells (ev j) dv).set k u ∧ (SlFl D' (w.setCell ⟨g, j * 6 + k, none⟩ u) dv' e'.data ∧ (e'.data = [] → dv' = .slice none 0 0))) (hf : FitEv (ev j) → FitEv e') : EvF (w.setCell ⟨g, j * 6 + k, none⟩ u) g N (upd ev j e') D' := by
  obtain ⟨cs, dv, hB, hsz, hh⟩ := h
  obtain ⟨f1, f2, f3⟩ := hh j hj
  obtain ⟨dv', c1, c2⟩ := hc _ f2.1 f2.2
  refine ⟨cs.setIfInBounds (j * 6 + k) u, fun i => if i = j then dv' else dv i, hB.set_ _ _, by simpa using hsz, fun i hi => ?_⟩
  by_cases hij : i = j
  · subst hij
    rw [upd_same]
    simp only [if_true]
    refine ⟨hf f1, c2, fun m v hm => ?_⟩
    rw [c1] at hm
    rw [Array.getElem?_setIfInBounds]
    by_cases hmk : m = k
    · subst hmk
      rw [List.getElem?_set_self (show m < (evCells (ev i) (dv i)).length from hk)] at hm
      rw [if_pos rfl, if_pos (by omega)]
      exact hm
    · rw [List.getElem?_set_ne (by omega)] at hm
      rw [if_neg (by omega)]
      exact f3 m v hm
  · rw [upd_ne hij]
    simp only [if_neg hij]
    obtain ⟨g1, g2, g3⟩ := hh i hi
    refine ⟨g1, ⟨Sl.keep g2.1 RFld.kept hD (fun b hb => Below.heap_setCell w _ u b fun e => hg ((show b = g from e) ▸ hb)), g2.2⟩, fun m v hm => ?_⟩
    have := evCells_lt hm
    rw [Array.getElem?_setIfInBounds, if_neg (by omega)]
    exact g3 m v hm
theorem EvF.put {w : World} {g N j k : Nat} {ev : Nat → Ev} {D : Nat → Prop} {u : Value} {e' : Ev} (h : EvF w g N ev D) (hj : j < N) (hk : k < 6) (hg : ¬ D g) (hc : ∀ dv, evCells e' dv = (evCells (ev j) dv).set k u) (hd : e'.data = (ev j).data) (hf : FitEv (ev j) → FitEv e') : EvF (w.setCell ⟨g, j * 6 + k, none⟩ u) g N (upd ev j e') D :=
  h.set hj hk hg (fun _ => id) (fun dv hs hn => ⟨dv, hc dv, by rw [hd]; exact ⟨Sl.keep hs RFld.kept (fun _ => id) (fun b hb => Below.heap_setCell w _ u b fun e => hg ((show b = g from e) ▸ hb)), hn⟩⟩) hf
theorem EvF.chg {w w' : World} {g N : Nat} {ev : Nat → Ev} {S D D' : Nat → Prop} (h : EvF w g N ev D) (k : Chg S w w') (hg : ¬ S g) (hS : ∀ b, D b → b < w.heap.size ∧ ¬ S b) (hD : ∀ b, D b → D' b) : EvF w' g N ev D' := by
  obtain ⟨cs, dv, hB, hsz, hh⟩ := h
  refine ⟨cs, dv, hB.chg k hg, hsz, fun j hj => ?_⟩
  obtain ⟨f1, f2, f3⟩ := hh j hj
  exact ⟨f1, ⟨Sl.keep f2.1 RFld.kept hD (fun b hb => k.block b (hS b hb).1 (hS b hb).2), f2.2⟩, f3⟩
theorem EvF.lt {w : World} {g N : Nat} {ev : Nat → Ev} {D : Nat → Prop} (h : EvF w g N ev D) : g < w.heap.size := by obtain ⟨_, _, hB, _⟩ := h; exact hB.lt
theorem EvF.frozen {w : World} {g N : Nat} {ev : Nat → Ev} {D : Nat → Prop} (h : EvF w g N ev D) (i : Nat) : w.frozen? ⟨g, i, none⟩ = false := by obtain ⟨_, _, hB, _⟩ := h; exact hB.frozen i
theorem EvF.at_ {w : World} {g N j : Nat} {ev : Nat → Ev} {D : Nat → Prop} (h : EvF w g N ev D) (hj : j < N) : ∃ dv, FitEv (ev j) ∧ (SlFl D w dv (ev j).data ∧ ((ev j).data = [] → dv = .slice none 0 0)) ∧ w.cell? ⟨g, j * 6, none⟩ = some (.string (ev j).cas) ∧ w.cell? ⟨g, j * 6 + 1, none⟩ = some (.string (ev j).act) ∧ w.cell? ⟨g, j * 6 + 2, none⟩ = some (.string (ev j).res) ∧
    w.cell? ⟨g, j * 6 + 3, none⟩ = some (.int .i64 (ev j).life) ∧ w.cell? ⟨g, j * 6 + 4, none⟩ = some (.int .i64 (ev j).time) ∧ w.cell? ⟨g, j * 6 + 5, none⟩ = some dv := by
  obtain ⟨cs, dv, hB, _, hh⟩ := h
  obtain ⟨f1, f2, f3⟩ := hh j hj
  exact ⟨dv j, f1, f2, (hB.cell _).trans (f3 0 _ rfl), (hB.cell _).trans (f3 1 _ rfl), (hB.cell _).trans (f3 2 _ rfl), (hB.cell _).trans (f3 3 _ rfl), (hB.cell _).trans (f3 4 _ rfl), (hB.cell _).trans (f3 5 _ rfl)⟩
theorem EvF.ext {w : World} {g N : Nat} {ev ev' : Nat → Ev} {D : Nat → Prop} (h : EvF w g N ev D) (he : ∀ j, j < N → ev' j = ev j) : EvF w g N ev' D := by
  obtain ⟨cs, dv, hB, hsz, hh⟩ := h
  refine ⟨cs, dv, hB, hsz, fun j hj => ?_⟩
  rw [he j hj]
  exact hh j hj
theorem EvF.sl {w : World} {g N c : Nat} {ev : Nat → Ev} {D D' : Nat → Prop} (h : EvF w g N ev D) (hc : N ≤ c) (hc2 : c ≤ 9223372036854775807) (hg : D' g) (hD : ∀ b, D b → D' b) : SlEv D' w (.slice (some ⟨g, 0, none⟩) N c) ((List.range N).map ev) := by
  obtain ⟨cs, dv, hB, hsz, hh⟩ := h
  refine ⟨some ⟨g, 0, none⟩, c, by simp, by simpa using hc, hc2, fun i x hx => ?_⟩
  rw [List.getElem?_map, Option.map_eq_some_iff] at hx
  obtain ⟨i', hi, rfl⟩ := hx
  have hlt : i < N := by simpa using (List.getElem?_eq_some_iff.1 hi).1
  have hii : i' = i := by
    have := (List.getElem?_eq_some_iff.1 hi).2
    simpa using this.symm
  subst hii
  obtain ⟨f1, f2, f3⟩ := hh i' hlt
  refine ⟨g, 0, evCells (ev i') (dv i'), rfl, hg, rfl, ⟨dv i', rfl, f1, Sl.keep f2.1 RFld.kept hD (Same.refl _ _)⟩, fun m u hm => ?_⟩
  rw [Nat.zero_add]
  exact (hB.cell _).trans (f3 m u hm)
theorem lead_get {x : Nat} : ∀ (l : List Nat) (m : Nat), m < lead x l → l[m]? = some x
  | [], m, h => by simp [lead] at h
  | y :: l, m, h => by
    unfold lead at h
    split at h
    · rename_i e
      subst e
      cases m with
      | zero => rfl
      | succ m => simpa using lead_get l m (by omega)
    · omega
theorem runs_split {vals : List Nat} {i : Nat} (hi : i < vals.length) : ∃ x K, 1 ≤ K ∧ i + K ≤ vals.length ∧ (∀ m, i ≤ m → m < i + K → vals[m]? = some x) ∧ arRuns (vals.drop i) = arNum x ++ (arNum K ++ arRuns (vals.drop (i + K))) := by
  refine ⟨vals[i], lead vals[i] (vals.drop (i + 1)) + 1, by omega, ?_, fun m h1 h2 => ?_, ?_⟩
  · have := lead_le vals[i] (vals.drop (i + 1))
    rw [List.length_drop] at this
    omega
  · rcases Nat.eq_or_lt_of_le h1 with rfl | h1
    · exact List.getElem?_eq_getElem hi
    · have := lead_get (x := vals[i]) (vals.drop (i + 1)) (m - (i + 1)) (by omega)
      rw [List.getElem?_drop, show i + 1 + (m - (i + 1)) = m by omega] at this
      exact this
  · rw [List.drop_eq_getElem_cons hi, arRuns_cons, List.drop_drop, List.append_assoc]
    congr 4
    omega
end Go.Proofs.YtjglmjdfndcmmaaGreat

set_option linter.all false
namespace Go.Proofs.YtjglmjdfndcmmaaGreat
open Go.RowKit
structure Puts (k : FuncId) (caps : Array Value) (R g : Nat) (set : Ev → Nat → Ev) (bad : Nat → Bool) (I : World → Prop) : Prop where
  enter : ∀ z y w, (callFunc k (#[z, y] ++ caps)).run Tryz.prog w = .ok (.enter k (#[z, y] ++ caps)) w
  keep : ∀ W W', Chg (Two R g) W W' → I W → I W'
  step : ∀ (B N L j n : Nat) (ev : Nat → Ev) (l : List UInt8) (q : Bool) (W : World), I W → RdP B W R l q → EvF W g N ev (Dn L g R) → B ≤ R → B ≤ g → g ≠ R → j < N → L ≤ W.heap.size → n < 1000000 →
    Calls Tryz.prog k (#[.pointer (some ⟨g, j * 6, none⟩), .int .i64 (n : Int)] ++ caps) W fun e W' => e = .returned (.tuple #[]) ∧ RdP B W' R l (q || bad n) ∧ EvF W' g N (upd ev j (set (ev j) n)) (Dn L g R) ∧ Chg (Two R g) W W'
def wordAt (ws : List ByteArray) (n : Nat) : ByteArray := ws.getD n ⟨#[]⟩
structure WordsI (bw br bf R g X : Nat) (A : Option Addr) (c : Nat) (ws : List ByteArray) (W : World) : Prop where
  w : Blk W bw 42 #[.slice A ws.length c]
  sl : SlS (Dn X g R) W (.slice A ws.length c) ws
  r : Blk W br 84 #[.pointer (some ⟨R, 0, none⟩)]
  f : Blk W bf 102 #[.func (.func 59) #[] #[.pointer (some ⟨bw, 0, none⟩), .pointer (some ⟨br, 0, none⟩)]]
  x : X ≤ W.heap.size
  ne : bw ≠ R ∧ bw ≠ g ∧ br ≠ R ∧ br ≠ g ∧ bf ≠ R ∧ bf ≠ g
theorem WordsI.chg {bw br bf R g X c : Nat} {A : Option Addr} {ws : List ByteArray} {W W' : World} (h : WordsI bw br bf R g X A c ws W) (k : Chg (Two R g) W W') : WordsI bw br bf R g X A c ws W' := by
  obtain ⟨h1, h2, h3, h4, h5, n1, n2, n3, n4, n5, n6⟩ := h
  have hx : ∀ b, Dn X g R b → ¬ Two R g b := fun b hb e => by
    rcases e with e | e
    · exact Dn.ner hb e
    · exact hb.2.1 e
  exact ⟨h1.chg k (by rintro (e | e) <;> omega), Sl.keep h2 RStr.kept (fun _ => id) (fun b hb => k.block b (Nat.lt_of_lt_of_le hb.1 h5) (hx b hb)), h3.chg k (by rintro (e | e) <;> omega), h4.chg k (by rintro (e | e) <;> omega), Nat.le_trans h5 k.size, n1, n2, n3, n4, n5, n6⟩
theorem Chg.two {R g : Nat} {w w' : World} (h : Chg (One R) w w') : Chg (Two R g) w w' := h.mono fun _ _ e => .inl e
set_option maxHeartbeats 1000000 in
set_option maxRecDepth 100000 in
theorem word_any (bw br bf R g X c B n : Nat) (A : Option Addr) (ws : List ByteArray) (l : List UInt8) (q : Bool) (W : World) (h : WordsI bw br bf R g X A c ws W) (hr : RdP B W R l q) (hB : B ≤ R) (hn : n < 1000000) :
    Calls Tryz.prog 59 #[.int .i64 (n : Int), .pointer (some ⟨bw, 0, none⟩), .pointer (some ⟨br, 0, none⟩)] W fun e W' => e = .returned (.string (wordAt ws n)) ∧ RdP B W' R l (q || decide (ws.length ≤ n)) ∧ Chg (One R) W W' := by
  have c0 := h.w.c1
  have c1 := h.r.c1
  have HR := Lib.hid hr
  have HS := Lib.hid h.sl
  obtain ⟨b, o, kc, hK, _, _, _⟩ := hr
  obtain ⟨d0, d1⟩ := hK.c2
  have fz1 := hK.frozen 1
  clear h hK
  by_cases hlt : ws.length ≤ n
  · have hi : (ws.length : Int) ≤ (n : Int) := by omega
    have HF : Hid (RdP B (W.setCell ⟨R, 1, none⟩ (.bool true)) R l (q || decide (ws.length ≤ n)) ∧ Chg (One R) W (W.setCell ⟨R, 1, none⟩ (.bool true))) := Lib.hid (by
      rw [decide_eq_true hlt, Bool.or_true]
      exact ⟨HR.out.bad hB, Chg.refl.set (p := ⟨R, 1, none⟩) (.inr (show One R R from rfl)) _⟩)
    have HW : Hid (wordAt ws n = ⟨#[]⟩) := Lib.hid (by unfold wordAt; rw [List.getD_eq_getElem?_getD, List.getElem?_eq_none hlt]; rfl)
    clear hlt
    go_enter Tryz.func59, Tryz.ntmps59
    go_wp2_with fail
    go_ret
    exact ⟨by rw [HW.out]; rfl, HF.out⟩
  · have hi : ¬ (ws.length : Int) ≤ (n : Int) := by omega
    obtain ⟨b', o', s, rfl, hD, hx, hs, hc⟩ := SlS.at_ (k := n) HS.out (by omega)
    have HW : Hid (wordAt ws n = s) := Lib.hid (by unfold wordAt; rw [List.getD_eq_getElem?_getD, hx]; rfl)
    have HF : Hid (RdP B W R l (q || decide (ws.length ≤ n))) := Lib.hid (by rw [decide_eq_false hlt, Bool.or_false]; exact HR.out)
    have h1 : (n : Int) < (ws.length : Int) := by omega
    clear hlt hx
    go_enter Tryz.func59, Tryz.ntmps59
    go_wp2_with fail
    go_ret
    exact ⟨by rw [HW.out]; rfl, HF.out, Chg.refl⟩
-- PUTS
set_option maxHeartbeats 1000000 in
set_option maxRecDepth 100000 in
theorem puts1 (bw br bf R g X c : Nat) (A : Option Addr) (ws : List ByteArray) (hws : ∀ s ∈ ws, s.size ≤ maxLen) : Puts 61 #[.pointer (some ⟨bf, 0, none⟩)] R g (fun e n => { e with cas := wordAt ws n }) (fun n => decide (ws.length ≤ n)) (WordsI bw br bf R g X A c ws) := by
  refine ⟨fun z y w => enters_of Tryz.func61 (by kernel_rfl) rfl _ w, fun _ _ k h => h.chg k, ?_⟩
  rintro B N L j n ev l q W hI hR hE hB hBg hgR hj hL hn
  show Calls Tryz.prog 61 #[.pointer (some ⟨g, j * 6, none⟩), .int .i64 (n : Int), .pointer (some ⟨bf, 0, none⟩)] W _
  have c0 := hI.f.c1
  have HW := Lib.hid (word_any bw br bf R g X c B n A ws l q W hI hR hB hn)
  have HE := Lib.hid hE
  have HRl := Lib.hid hR.lt
  have HSZ := Lib.hid (show (wordAt ws n).size ≤ maxLen by
    unfold wordAt
    rw [List.getD_eq_getElem?_getD]
    cases h : ws[n]? with
    | none => exact Nat.zero_le _
    | some s => exact hws s (List.mem_of_getElem? h))
  clear hI hR hE
  go_enter Tryz.func61, Tryz.ntmps61
  go_wp2_with fail
  (with_reducible refine HW.out.mono ?_)
  rintro _ w1 ⟨rfl, hR1, hC1⟩
  have hE1 := HE.out.chg hC1 (fun e => hgR e) (fun b hb => ⟨Nat.lt_of_lt_of_le hb.1 hL, Dn.ner hb⟩) (fun _ => id)
  obtain ⟨dv, _, _, a0, a1, a2, a3, a4, a5⟩ := hE1.at_ hj
  have fz := hE1.frozen (j * 6)
  have HF : Hid (RdP B (w1.setCell ⟨g, j * 6, none⟩ (.string (wordAt ws n))) R l (q || decide (ws.length ≤ n)) ∧ EvF (w1.setCell ⟨g, j * 6, none⟩ (.string (wordAt ws n))) g N (upd ev j { ev j with cas := wordAt ws n }) (Dn L g R) ∧ Chg (Two R g) W (w1.setCell ⟨g, j * 6, none⟩ (.string (wordAt ws n)))) := Lib.hid
    ⟨hR1.far hB (p := ⟨g, j * 6, none⟩) ⟨hgR, hBg⟩ _, hE1.put (k := 0) hj (by omega) (fun h => h.2.1 rfl) (fun _ => rfl) rfl (fun h => ⟨HSZ.out, h.act, h.res, h.life, h.time⟩), hC1.two.set (p := ⟨g, j * 6, none⟩) (.inr (.inr rfl)) _⟩
  clear hR1 hE1 hC1
  go_wp2_with fail
  go_end0
  exact ⟨rfl, HF.out⟩
set_option maxHeartbeats 1000000 in
set_option maxRecDepth 100000 in
theorem puts2 (bw br bf R g X c : Nat) (A : Option Addr) (ws : List ByteArray) (hws : ∀ s ∈ ws, s.size ≤ maxLen) : Puts 62 #[.pointer (some ⟨bf, 0, none⟩)] R g (fun e n => { e with act := wordAt ws n }) (fun n => decide (ws.length ≤ n)) (WordsI bw br bf R g X A c ws) := by
  refine ⟨fun z y w => enters_of Tryz.func62 (by kernel_rfl) rfl _ w, fun _ _ k h => h.chg k, ?_⟩
  rintro B N L j n ev l q W hI hR hE hB hBg hgR hj hL hn
  show Calls Tryz.prog 62 #[.pointer (some ⟨g, j * 6, none⟩), .int .i64 (n : Int), .pointer (some ⟨bf, 0, none⟩)] W _
  have c0 := hI.f.c1
  have HW := Lib.hid (word_any bw br bf R g X c B n A ws l q W hI hR hB hn)
  have HE := Lib.hid hE
  have HRl := Lib.hid hR.lt
  have HSZ := Lib.hid (show (wordAt ws n).size ≤ maxLen by
    unfold wordAt
    rw [List.getD_eq_getElem?_getD]
    cases h : ws[n]? with
    | none => exact Nat.zero_le _
    | some s => exact hws s (List.mem_of_getElem? h))
  clear hI hR hE
  go_enter Tryz.func62, Tryz.ntmps62
  go_wp2_with fail
  (with_reducible refine HW.out.mono ?_)
  rintro _ w1 ⟨rfl, hR1, hC1⟩
  have hE1 := HE.out.chg hC1 (fun e => hgR e) (fun b hb => ⟨Nat.lt_of_lt_of_le hb.1 hL, Dn.ner hb⟩) (fun _ => id)
  obtain ⟨dv, _, _, a0, a1, a2, a3, a4, a5⟩ := hE1.at_ hj
  have fz := hE1.frozen (j * 6 + 1)
  have HF : Hid (RdP B (w1.setCell ⟨g, j * 6 + 1, none⟩ (.string (wordAt ws n))) R l (q || decide (ws.length ≤ n)) ∧ EvF (w1.setCell ⟨g, j * 6 + 1, none⟩ (.string (wordAt ws n))) g N (upd ev j { ev j with act := wordAt ws n }) (Dn L g R) ∧ Chg (Two R g) W (w1.setCell ⟨g, j * 6 + 1, none⟩ (.string (wordAt ws n)))) := Lib.hid
    ⟨hR1.far hB (p := ⟨g, j * 6 + 1, none⟩) ⟨hgR, hBg⟩ _, hE1.put (k := 1) hj (by omega) (fun h => h.2.1 rfl) (fun _ => rfl) rfl (fun h => ⟨h.cas, HSZ.out, h.res, h.life, h.time⟩), hC1.two.set (p := ⟨g, j * 6 + 1, none⟩) (.inr (.inr rfl)) _⟩
  clear hR1 hE1 hC1
  go_wp2_with fail
  go_end0
  exact ⟨rfl, HF.out⟩
set_option maxHeartbeats 1000000 in
set_option maxRecDepth 100000 in
theorem puts3 (bw br bf R g X c : Nat) (A : Option Addr) (ws : List ByteArray) (hws : ∀ s ∈ ws, s.size ≤ maxLen) : Puts 63 #[.pointer (some ⟨bf, 0, none⟩)] R g (fun e n => { e with res := wordAt ws n }) (fun n => decide (ws.length ≤ n)) (WordsI bw br bf R g X A c ws) := by
  refine ⟨fun z y w => enters_of Tryz.func63 (by kernel_rfl) rfl _ w, fun _ _ k h => h.chg k, ?_⟩
  rintro B N L j n ev l q W hI hR hE hB hBg hgR hj hL hn
  show Calls Tryz.prog 63 #[.pointer (some ⟨g, j * 6, none⟩), .int .i64 (n : Int), .pointer (some ⟨bf, 0, none⟩)] W _
  have c0 := hI.f.c1
  have HW := Lib.hid (word_any bw br bf R g X c B n A ws l q W hI hR hB hn)
  have HE := Lib.hid hE
  have HRl := Lib.hid hR.lt
  have HSZ := Lib.hid (show (wordAt ws n).size ≤ maxLen by
    unfold wordAt
    rw [List.getD_eq_getElem?_getD]
    cases h : ws[n]? with
    | none => exact Nat.zero_le _
    | some s => exact hws s (List.mem_of_getElem? h))
  clear hI hR hE
  go_enter Tryz.func63, Tryz.ntmps63
  go_wp2_with fail
  (with_reducible refine HW.out.mono ?_)
  rintro _ w1 ⟨rfl, hR1, hC1⟩
  have hE1 := HE.out.chg hC1 (fun e => hgR e) (fun b hb => ⟨Nat.lt_of_lt_of_le hb.1 hL, Dn.ner hb⟩) (fun _ => id)
  obtain ⟨dv, _, _, a0, a1, a2, a3, a4, a5⟩ := hE1.at_ hj
  have fz := hE1.frozen (j * 6 + 2)
  have HF : Hid (RdP B (w1.setCell ⟨g, j * 6 + 2, none⟩ (.string (wordAt ws n))) R l (q || decide (ws.length ≤ n)) ∧ EvF (w1.setCell ⟨g, j * 6 + 2, none⟩ (.string (wordAt ws n))) g N (upd ev j { ev j with res := wordAt ws n }) (Dn L g R) ∧ Chg (Two R g) W (w1.setCell ⟨g, j * 6 + 2, none⟩ (.string (wordAt ws n)))) := Lib.hid
    ⟨hR1.far hB (p := ⟨g, j * 6 + 2, none⟩) ⟨hgR, hBg⟩ _, hE1.put (k := 2) hj (by omega) (fun h => h.2.1 rfl) (fun _ => rfl) rfl (fun h => ⟨h.cas, h.act, HSZ.out, h.life, h.time⟩), hC1.two.set (p := ⟨g, j * 6 + 2, none⟩) (.inr (.inr rfl)) _⟩
  clear hR1 hE1 hC1
  go_wp2_with fail
  go_end0
  exact ⟨rfl, HF.out⟩
set_option maxHeartbeats 1000000 in
set_option maxRecDepth 100000 in
theorem puts4 (R g : Nat) : Puts 64 #[] R g (fun e n => { e with life := (n : Int) }) (fun _ => false) (fun _ => True) := by
  refine ⟨fun z y w => enters_of Tryz.func64 (by kernel_rfl) rfl _ w, fun _ _ _ h => h, ?_⟩
  rintro B N L j n ev l q W _ hR hE hB hBg hgR hj hL hn
  show Calls Tryz.prog 64 #[.pointer (some ⟨g, j * 6, none⟩), .int .i64 (n : Int)] W _
  obtain ⟨dv, _, _, a0, a1, a2, a3, a4, a5⟩ := hE.at_ hj
  have fz := hE.frozen (j * 6 + 3)
  have HF : Hid (RdP B (W.setCell ⟨g, j * 6 + 3, none⟩ (.int .i64 (n : Int))) R l q ∧ EvF (W.setCell ⟨g, j * 6 + 3, none⟩ (.int .i64 (n : Int))) g N (upd ev j { ev j with life := (n : Int) }) (Dn L g R) ∧ Chg (Two R g) W (W.setCell ⟨g, j * 6 + 3, none⟩ (.int .i64 (n : Int)))) := Lib.hid
    ⟨hR.far hB (p := ⟨g, j * 6 + 3, none⟩) ⟨hgR, hBg⟩ _, hE.put (k := 3) hj (by omega) (fun h => h.2.1 rfl) (fun _ => rfl) rfl (fun h => ⟨h.cas, h.act, h.res, fitI (by show _ ≤ (n : Int) ∧ (n : Int) ≤ _; omega), h.time⟩), Chg.refl.set (p := ⟨g, j * 6 + 3, none⟩) (.inr (show Two R g g from .inr rfl)) _⟩
  clear hR hE
  go_enter Tryz.func64, Tryz.ntmps64
  go_wp2_with fail
  go_end0
  exact ⟨rfl, HF.out⟩
end Go.Proofs.YtjglmjdfndcmmaaGreat
