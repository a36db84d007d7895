/- Texts of this seat, merged. -/
import Derived.Deep.CutRange
import Derived.ProofKit
import Derived.Deep.Slices
import Derived.Deep.Fields
import Derived.Deep.Strs
import Derived.ChangeSame
import Derived.Lib.SmallJoins
import Derived.LaidMore
import Derived.OpenShut
import Derived.Stop.Joined
import Derived.Test.YtjglmjdfndcmmaaGreatRows
import Derived.JoinedOf
import Derived.Handed
import Derived.Test.YtjglmjdfndcmmaaGreatZp01
import Derived.Test.YtjglmjdfndcmmaaGreatZp02
import Derived.Test.YtjglmjdfndcmmaaGreatZp03
import Derived.Test.YtjglmjdfndcmmaaGreatZp04
import Derived.Test.YtjglmjdfndcmmaaGreatZp05
import Derived.Test.YtjglmjdfndcmmaaGreatZp06
import Derived.Test.YtjglmjdfndcmmaaGreatZp07
import Derived.Test.YtjglmjdfndcmmaaGreatZp08
import Derived.Test.YtjglmjdfndcmmaaGreatZp09
import Derived.Test.YtjglmjdfndcmmaaGreatZp10
import Derived.Test.YtjglmjdfndcmmaaGreatZp11
import Derived.Test.YtjglmjdfndcmmaaGreatZp12
import Derived.Test.YtjglmjdfndcmmaaGreatZp13
import Derived.Test.YtjglmjdfndcmmaaGreatZp14
set_option linter.all false
set_option linter.all false
namespace Go.Proofs.YtjglmjdfndcmmaaGreat
open Go.RowKit
def YesP (w : World) (x : Ending) (w' : World) : Prop := x = .returned (.bool true) ∧ Below w.heap.size w w'
theorem OwnS.sl {w : World} {base : Nat} {v : Value} {l : List Bs} (h : OwnS w base v l) (hf : ∀ x ∈ l, x.length ≤ maxLen) : SlS (Lt w.heap.size) w v (l.map mkS) := h.slS hf
theorem acts_fit {y : List Ev} (hf : ∀ e ∈ y, EvOk e) : ∀ x ∈ setB (actsOf y), x.length ≤ maxLen := fun s hs => by
  rw [setB_mem] at hs
  obtain ⟨v, hv, rfl⟩ := List.mem_map.1 hs
  have := (name_size (hf v hv).act).2
  rw [size_eq]
  unfold maxLen
  omega
set_option maxHeartbeats 4000000 in
set_option maxRecDepth 100000 in
theorem archiveParts_law (bs : List UInt8) (n : Int) (ub : Value) (w : World) (hu : SlC (Lt w.heap.size) w ub bs) :
    Calls Tryz.prog 4 #[ub, .int .i64 n] w (YesP w) := by
  have HAW := Lib.hid awake_any
  have HU := Lib.hid hu
  obtain ⟨Ab, cb, rfl, _, _, _⟩ := hu.open_
  clear hu
  go_enter Tryz.func4, Tryz.ntmps4
  go_wp2_with fail
  (with_reducible refine (HAW.out _).mono ?_)
  rintro e w1 ⟨rfl, hb1⟩
  have HSH := Lib.hid (short_any _ bs w1 (HU.out.now hb1))
  go_wp2_with fail
  (with_reducible refine HSH.out.mono ?_)
  rintro e w2 ⟨⟨q, rfl⟩, hb2⟩
  have hb12 := hb1.trans (hb2.mono hb1.size)
  cases q
  · go_wp2_with fail
    (with_reducible refine (HAW.out _).mono ?_)
    rintro e w3 ⟨rfl, hb3⟩
    go_wp2_with fail
    go_ret
    exact ⟨rfl, hb12.trans (hb3.mono hb12.size)⟩
  clear hb1 hb2 HSH HAW
  have HBK := Lib.hid (blocks_any _ bs w2 (HU.out.now hb12))
  go_wp2_with fail
  (with_reducible refine HBK.out.mono ?_)
  rintro e w3 ⟨x, k, hsaid, rfl, hb3⟩
  have HSD := Lib.hid hsaid
  have hx2 := hsaid.len
  have hb13 := hb12.trans (hb3.mono hb12.size)
  have HAT := Lib.hid (blockAt_any _ bs n w3 (HU.out.now hb13))
  clear hb12 hb3 HBK hsaid
  go_wp2_with fail
  (with_reducible refine HAT.out.mono ?_)
  rintro e w4 ⟨x4, k4, ev4, y, r, hsaid4, hblk, rfl, hy, hb4⟩
  obtain ⟨hxe, hke⟩ := HSD.out.unique hsaid4
  rw [hxe, hke] at hblk
  have hy := hy.fresh
  have hblo := blk_ok HSD.out hblk
  have HBL := Lib.hid hblk
  obtain ⟨A4, c4, rfl, _, _, _⟩ := hy.open_
  have hb14 := hb13.trans (hb4.mono hb13.size)
  have hb5 := bone w4 (.cells #[.slice A4 y.length c4] 25)
  have hb15 := hb14.trans (hb5.mono hb14.size)
  have hB5 := Blk.new w4 25 #[.slice A4 y.length c4]
  have hY5 := SlEv.now hy hb5
  have HST := Lib.hid (stats_any _ bs n _ (HU.out.now hb15))
  clear hb13 hb4 hb14 HAT hsaid4 hxe hke hblk hy
  go_upto_region 5 with fail
  obtain ⟨w5, hw5⟩ : ∃ w5, w4.alloc (.cells #[.slice A4 y.length c4] 25) = w5 := ⟨_, rfl⟩
  obtain ⟨G7, hG7⟩ : ∃ G7, w4.heap.size = G7 := ⟨_, rfl⟩
  rw [hw5] at hb15 hB5 hY5 HST ⊢
  rw [hG7] at hB5 ⊢
  clear hw5 hG7 hb5
  go_wp2_with fail
  (with_reducible refine HST.out.mono ?_)
  rintro e w6 ⟨x6, k6, y6, r6, av, sa, sc, hsaid6, hblk6, rfl, hst, hb6⟩
  obtain ⟨hxe, hke⟩ := HSD.out.unique hsaid6
  rw [hxe, hke] at hblk6
  obtain ⟨hye, hre⟩ := HBL.out.unique hblk6
  rw [hye, hre] at hst
  rw [hre]
  have hb16 := hb15.trans (hb6.mono hb15.size)
  have hb7 := bone w6 (.cells #[.int .i64 sa, .int .i64 sc] 41)
  have hb17 := hb16.trans (hb7.mono hb16.size)
  have hB7 := Blk.new w6 41 #[.int .i64 sa, .int .i64 sc]
  have hB5' := (hB5.now hb6).now hb7
  have hY7 := SlEv.now (SlEv.now hY5 hb6) hb7
  have HST7 := Lib.hid hst
  have HO := Lib.hid (open_ref _ bs _ (HU.out.now hb17))
  have hws6 := hb6.size
  clear hb16 hb15 hB5 hY5 HST hsaid6 hxe hke hblk6 hye hre hst
  go_upto_region 6 with fail
  obtain ⟨w7, hw7⟩ : ∃ w7, w6.alloc (.cells #[.int .i64 sa, .int .i64 sc] 41) = w7 := ⟨_, rfl⟩
  obtain ⟨G9, hG9⟩ : ∃ G9, w6.heap.size = G9 := ⟨_, rfl⟩
  rw [hw7] at hb7 hb17 hB7 hB5' hY7 HO ⊢
  rw [hG9] at hB7 ⊢
  have HB67 := Lib.hid hb7
  clear hw7 hG9 hb7 hws6
  go_wp2_with fail
  (with_reducible refine HO.out.mono ?_)
  rintro e w8 ⟨ev8, x8, k8, rfl, hx8, hsaid8, hb8⟩
  have hx8 := hx8.fresh
  obtain ⟨hxe, hke⟩ := HSD.out.unique hsaid8
  rw [hxe] at hx8
  rw [hke]
  obtain ⟨A8, c8, rfl, hc8, hc8m, _⟩ := hx8.open_
  have hb9 := bone w8 (.cells #[.slice A8 x.length c8] 25)
  have hb18 := hb17.trans (hb8.mono hb17.size)
  have hb19 := hb18.trans (hb9.mono hb18.size)
  have hB9 := Blk.new w8 25 #[.slice A8 x.length c8]
  have hX9 := SlEv.now hx8 hb9
  have hB7' := (hB7.now hb8).now hb9
  have hB5'' := (hB5'.now hb8).now hb9
  have hY9 := SlEv.now (SlEv.now hY7 hb8) hb9
  have HB69 := Lib.hid (HB67.out.trans ((hb8.trans (hb9.mono hb8.size)).mono HB67.out.size))
  clear hb17 hb18 hB7 hB5' hY7 HO hsaid8 hxe hke hx8 hb8
  go_upto_region 7 with fail
  obtain ⟨w9, hw9⟩ : ∃ w9, w8.alloc (.cells #[.slice A8 x.length c8] 25) = w9 := ⟨_, rfl⟩
  obtain ⟨G12, hG12⟩ : ∃ G12, w8.heap.size = G12 := ⟨_, rfl⟩
  rw [hw9] at hb9 hb19 hB9 hX9 hB7' hB5'' hY9 HB69 ⊢
  rw [hG12] at hB9 ⊢
  clear hw9 hG12 hb9
  have HB19 := Lib.hid hb19
  have HX9 := Lib.hid hX9
  have HY9 := Lib.hid hY9
  clear hb19 hX9 hY9
  have g7 := hB5''.c1
  obtain ⟨g9, g9'⟩ := hB7'.c2
  have g12 := hB9.c1
  rcases HBL.out with ⟨hk, hy0, hr0⟩ | ⟨hk, hn, hy0, hr0⟩ | ⟨hk, m, hnm, hmx, hym, hr0⟩
  · -- an error
    have hx0 := HSD.out.err hk
    have hse : sa = 0 ∧ sc = 0 ∧ av = .slice none 0 0 := by
      rcases HST7.out with ⟨_, h1, h2, h3⟩ | ⟨h, _⟩
      · exact ⟨h1, h2, h3⟩
      · exact absurd (hr0.symm.trans h) hk
    obtain ⟨rfl, rfl, rfl⟩ := hse
    have z1 : (k != 0) = true := by simp [hk]
    subst hx0 hy0 hr0
    have hn0 : ((nParts ([] : List Ev) : Nat) : Int) = 0 := rfl
    rw [hn0]
    simp only [List.length_nil] at g7 g12 ⊢
    clear hk HST7 HBL hblo
    go_wp2_with fail
    go_ret
    exact ⟨by simp, HB19.out⟩
  · -- no such block
    subst hk hy0 hr0
    have hse : sa = 0 ∧ sc = 0 ∧ av = .slice none 0 0 := by
      rcases HST7.out with ⟨_, h1, h2, h3⟩ | ⟨h, _⟩
      · exact ⟨h1, h2, h3⟩
      · cases h
    obtain ⟨rfl, rfl, rfl⟩ := hse
    have HBR := Lib.hid (blocksR A8 x.length c8 w9 (by omega))
    rw [show (x.length + 99) / 100 = nParts x from rfl] at HBR
    simp only [List.length_nil] at g7 ⊢
    obtain ⟨N, hN⟩ : ∃ N : Int, ((nParts x : Nat) : Int) = N := ⟨_, rfl⟩
    rw [hN] at hn HBR ⊢
    clear hN HST7 HBL hblo
    go_wp2_with fail
    (with_reducible refine HBR.out.mono ?_)
    rintro e w10 ⟨rfl, hb10⟩
    have g7' := (hB5''.now hb10).c1
    obtain ⟨h9, h9'⟩ := (hB7'.now hb10).c2
    have HB := Lib.hid (HB19.out.trans (hb10.mono HB19.out.size))
    clear g7 g9 g9' g12 hb10
    by_cases hn0 : n < 0
    · clear hn
      go_wp2_with fail
      go_ret
      exact ⟨by simp, HB.out⟩
    · have hn1 : N ≤ n := by omega
      clear hn
      go_wp2_with fail
      go_ret
      exact ⟨by simp, HB.out⟩
  · -- a block
    subst hk hr0 hnm
    have hst : OwnS w6 w5.heap.size av (setB (actsOf y)) ∧ ∃ e0 e1, y[0]? = some e0 ∧ y[y.length - 1]? = some e1 ∧ sa = e0.time ∧ sc = e1.time + 1 := by
      rcases HST7.out with ⟨h, _⟩ | ⟨_, h⟩
      · exact absurd rfl h
      · exact h
    obtain ⟨hav, e0, e1, he0, he1, rfl, rfl⟩ := hst
    obtain ⟨hy100, hok, _, hpos⟩ := hblo
    have hypos := hpos rfl
    have HYM := Lib.hid hym
    have HOK := Lib.hid hok
    have hl100 : 100 * m < x.length := by unfold nParts at hmx; omega
    obtain ⟨b8, o8, _, _, rfl, -⟩ := SlEv.at_ HX9.out (k := 0) (by omega)
    have HBR := Lib.hid (blocksR (some ⟨b8, o8, none⟩) x.length c8 w9 (by omega))
    rw [show (x.length + 99) / 100 = nParts x from rfl] at HBR
    have HAV := Lib.hid (OwnS.sl hav (acts_fit hok))
    have HAV9 := Lib.hid (HAV.out.now HB69.out)
    have z0 : ¬ (m : Int) < 0 := by omega
    have z1 : ¬ (nParts x : Int) ≤ (m : Int) := by omega
    have HE := Lib.hid (And.intro he0 he1)
    have HPT : Hid (∀ W, Calls Tryz.prog 17 #[.agg #[.slice (some ⟨b8, o8, none⟩) x.length c8], .int .i64 (m : Int)] W fun e w' => e = .returned (.slice (some ⟨b8, o8 + 100 * m * 6, none⟩) y.length (c8 - 100 * m)) ∧ Below W.heap.size W w') := Lib.hid fun W => by
      have h := partR b8 o8 x.length c8 m W hl100 (by omega) hc8 hc8m
      rw [show min 100 (x.length - 100 * m) = y.length by rw [HYM.out, part_count]] at h
      exact h
    have HPS : Hid (SlEv (Lt w9.heap.size) w9 (.slice (some ⟨b8, o8 + 100 * m * 6, none⟩) y.length (c8 - 100 * m)) y) := Lib.hid (by
      have h := part_sl' HX9.out hmx rfl (c8 - 100 * m) (by omega) (by unfold maxLen; omega)
      rw [← HYM.out, show min 100 (x.length - 100 * m) = y.length by rw [HYM.out, part_count]] at h
      exact h)
    clear hav he0 he1 hok hpos hym HST7 HBL
    obtain ⟨Na, hNa⟩ : ∃ Na : Int, ((nParts x : Nat) : Int) = Na := ⟨_, rfl⟩
    rw [hNa] at z1 HBR ⊢
    clear hNa hmx
    go_wp2_with fail
    (with_reducible refine HBR.out.mono ?_)
    rintro e w10 ⟨rfl, hb10⟩
    have hb910 := hb10
    have k7 := (hB5''.now hb10).c1
    obtain ⟨k9, k9'⟩ := (hB7'.now hb10).c2
    have k12 := (hB9.now hb10).c1
    clear g7 g9 g9' g12
    go_wp2_with fail
    (with_reducible refine (HPT.out _).mono ?_)
    rintro e w11 ⟨rfl, hb11⟩
    have hb911 := hb10.trans (hb11.mono hb10.size)
    have HSR := Lib.hid (stats_ref y _ w11 (SlEv.now HPS.out hb911) hypos hy100 HOK.out)
    go_wp2_with fail
    (with_reducible refine HSR.out.mono ?_)
    rintro e w12 ⟨av2, f0, f1, rfl, hO2, hf0, hf1, hb12⟩
    obtain rfl : f0 = e0 := by have := HE.out.1; rw [hf0] at this; injection this
    obtain rfl : f1 = e1 := by have := HE.out.2; rw [hf1] at this; injection this
    have hb912 := hb911.trans (hb12.mono hb911.size)
    have hb13 := bone w12 (.cells #[.int .i64 f0.time, .int .i64 (f1.time + 1)] 41)
    have hb913 := hb912.trans (hb13.mono hb912.size)
    have hB14 := Blk.new w12 41 #[.int .i64 f0.time, .int .i64 (f1.time + 1)]
    have HAV2 := Lib.hid ((OwnS.sl hO2 (acts_fit HOK.out)).now hb13)
    clear hb10 hb11 hb12 hb910 hO2 hf0 hf1 k7 k9 k9' k12 HSR
    go_upto_region 14 with fail
    obtain ⟨wA, hwA⟩ : ∃ wA, w12.alloc (.cells #[.int .i64 f0.time, .int .i64 (f1.time + 1)] 41) = wA := ⟨_, rfl⟩
    obtain ⟨G14, hG14⟩ : ∃ G14, w12.heap.size = G14 := ⟨_, rfl⟩
    rw [hwA] at hb13 hb913 hB14 HAV2 ⊢
    rw [hG14] at hB14 ⊢
    clear hwA hG14 hb13 hb911 hb912
    have hC7 := hB5''.now hb913
    have hC9 := hB7'.now hb913
    have hC12 := hB9.now hb913
    have t7 : ∀ W, (ext wA W).cell? ⟨G7, 0, none⟩ = some (.slice A4 y.length c4) := fun W => (hC7.now (ext_below wA W)).c1
    have t9 : ∀ W, (ext wA W).cell? ⟨G9, 0, none⟩ = some (.int .i64 f0.time) := fun W => (hC9.now (ext_below wA W)).c2.1
    have t9' : ∀ W, (ext wA W).cell? ⟨G9, 1, none⟩ = some (.int .i64 (f1.time + 1)) := fun W => (hC9.now (ext_below wA W)).c2.2
    have t12 : ∀ W, (ext wA W).cell? ⟨G12, 0, none⟩ = some (.slice (some ⟨b8, o8, none⟩) x.length c8) := fun W => (hC12.now (ext_below wA W)).c1
    have t14 : ∀ W, (ext wA W).cell? ⟨G14, 0, none⟩ = some (.int .i64 f0.time) := fun W => (hB14.now (ext_below wA W)).c2.1
    have t14' : ∀ W, (ext wA W).cell? ⟨G14, 1, none⟩ = some (.int .i64 (f1.time + 1)) := fun W => (hB14.now (ext_below wA W)).c2.2
    have HSM : Hid (∀ W, Calls Tryz.prog 18 #[.agg #[.slice A4 y.length c4], .agg #[.slice (some ⟨b8, o8 + 100 * m * 6, none⟩) y.length (c8 - 100 * m)]] (ext wA W) fun e w' => e = .returned (.bool true) ∧ Below (ext wA W).heap.size (ext wA W) w') :=
      Lib.hid fun W => logSame_ref y _ _ _ ⟨_, rfl, SlEv.now (SlEv.now HY9.out hb913) (ext_below wA W)⟩ ⟨_, rfl, SlEv.now (SlEv.now HPS.out hb913) (ext_below wA W)⟩
    have HEQ : Hid (∀ W, Calls Tryz.prog 19 #[av, av2] (ext wA W) fun e w' => e = .returned (.bool true) ∧ ∃ q, w' = (ext wA W).drewN q) :=
      Lib.hid fun W => by
        have h := equalS _ _ _ _ (ext wA W) ((HAV9.out.now hb913).now (ext_below wA W)) (HAV2.out.now (ext_below wA W))
        rw [decide_eq_true rfl] at h
        exact h
    obtain ⟨Aa, ca, rfl, _⟩ := HAV.out.open_
    obtain ⟨Ab2, cb2, rfl, _⟩ := HAV2.out.open_
    simp only [List.length_map] at HEQ
    have HF := Lib.hid (fun W (h : Below wA.heap.size wA W) => HB19.out.trans ((hb913.trans (h.mono hb913.size)).mono HB19.out.size))
    clear hC7 hC9 hC12 hB14 hb913 hB5'' hB7' hB9
    refine wp_region_growV (by kernel_rfl) (by kernel_rfl) ?_
    repeat (refine veil_step (fun K hK => ?_); go_simp; first | (refine hK _ ?_; clear hK K) | (apply Exists.intro; refine ⟨fun Wq => ?_, hK _ ?_⟩; (first | (go_at_call 17; (with_reducible exact grow_of (HPT.out (ext wA Wq)))) | (go_at_call 18; (with_reducible exact grow_of (HSM.out Wq))) | (go_at_call 19; (with_reducible exact grow_drew (HEQ.out Wq)))); clear hK K))
    refine veil_nil ?_
    intro _ hw'
    obtain ⟨W, rfl⟩ := hw'
    go_wp2_with fail
    go_ret
    exact ⟨by simp, HF.out _ (ext_below wA W)⟩
end Go.Proofs.YtjglmjdfndcmmaaGreat

set_option linter.all false
namespace Go.Proofs.YtjglmjdfndcmmaaGreat
open Go.ChangeShapes Go.WideShapes Go.RowKit Go.Deep
theorem add_lit' (b o n j : Nat) : ((⟨b, o, none⟩ : Addr).add n).add j = ⟨b, o + n + j, none⟩ := by
  rw [add_add']; unfold Addr.add
  by_cases h : n + j = 0
  · have h1 : n = 0 := by omega
    have h2 : j = 0 := by omega
    subst h1 h2; rfl
  · rw [if_neg h]; simp [Nat.add_assoc]
theorem cell_spot {w : World} {a : Addr} {u : Value} (h : w.cell? a = some u) : a = ⟨a.block, a.off, none⟩ ∧ a.block < w.heap.size := by
  obtain ⟨b, o, s⟩ := a
  unfold World.cell? at h
  cases s with
  | none =>
    refine ⟨rfl, ?_⟩
    rcases Nat.lt_or_ge b w.heap.size with h' | h'
    · exact h'
    · simp [Array.getElem?_eq_none h'] at h
  | some s => split at h <;> simp at h
section
variable {H : Type} {enc : TypeId × Value → H} {P : Program} {w : World} {base : Nat} {spare : Nat → Bool} {held : Bool}
theorem Sl.of_trod {α : Type} [Inhabited α] {size : Nat} {R : ElemR α} {t e : TypeId} {fuel : Nat} {v : Value} {x : DataW H × List MemPlace} (ht : P.underlying t = some (.slice e)) (hsz : P.cellsOf e = size) (hs0 : 0 < size)
    (hR : ∀ (fuel' : Nat) (cs : List Value) (y : DataW H × List MemPlace), DataW.trod enc P w base spare held fuel' e cs = some y → ∃ z, R (Lt w.heap.size) w z cs)
    (h : DataW.trod enc P w base spare held fuel t [v] = some x) : ∃ xs, Sl size R (Lt w.heap.size) w v xs := by
  rcases open_slice ht h with ⟨hv, _⟩ | ⟨a, len, cap, m, n, D, Pl, hv, _, hl, hm, hmm, _, hi⟩
  · injection hv with hv; subst hv; exact ⟨[], Sl.none_⟩
  · injection hv with hv
    subst hv
    have hlm : len ≤ m := by rw [hmm]; split <;> omega
    have key : ∀ i, ∃ z : α, i < len → ∃ cs : List Value, cs.length = size ∧ R (Lt w.heap.size) w z cs ∧ ∀ j, j < size → w.cell? ((a.add (i * size)).add j) = cs[j]? := by
      intro i
      by_cases hlt : i < len
      · obtain ⟨cs', hc, htr⟩ := hi i (by omega)
        rw [hsz] at hc
        obtain ⟨z, hz⟩ := hR _ _ _ htr
        obtain ⟨_, hcl, hat⟩ := World.cells?_some hc
        exact ⟨z, fun _ => ⟨cs', hcl, hz, hat⟩⟩
      · exact ⟨default, fun h' => absurd h' hlt⟩
    refine ⟨(List.range len).map fun i => Classical.choose (key i), some a, cap, by simp, by simpa using hl, hm, fun i z hz => ?_⟩
    rw [List.getElem?_map] at hz
    have hlt : i < len := by
      rcases Nat.lt_or_ge i len with h' | h'
      · exact h'
      · rw [List.getElem?_eq_none (by simpa using h')] at hz; simp at hz
    rw [List.getElem?_range hlt] at hz
    injection hz with hz
    obtain ⟨cs, hcl, hr, hat⟩ := Classical.choose_spec (key i) hlt
    obtain ⟨cs0, hcl0, _, hat0⟩ := Classical.choose_spec (key 0) (by omega)
    have h00 := hat0 0 hs0
    have hc0 : cs0[0]? = some (cs0[0]'(by omega)) := List.getElem?_eq_getElem (by omega)
    rw [hc0] at h00
    have ha0 : (a.add (0 * size)).add 0 = a := by simp [Addr.add]
    rw [ha0] at h00
    obtain ⟨ha, hblk⟩ := cell_spot h00
    replace hz : Classical.choose (key i) = z := hz
    rw [hz] at hr
    refine ⟨a.block, a.off, cs, by rw [← ha], hblk, hcl, hr, fun j u hu => ?_⟩
    have hj : j < size := by
      rcases Nat.lt_or_ge j cs.length with h' | h'
      · omega
      · rw [List.getElem?_eq_none h'] at hu; cases hu
    have := hat j hj
    rw [ha, add_lit'] at this
    rw [this, hu]
theorem fit_of_wf {n : Int} (h : (Lit.int .i64 n).wf = true) : Fit n := by
  have h' : decide ((-9223372036854775808 : Int) ≤ n) = true ∧ decide (n ≤ (9223372036854775807 : Int)) = true := by
    rw [← Bool.and_eq_true]; exact h
  unfold Fit
  simpa using h'
theorem SlI.of_trod {t e : TypeId} {fuel : Nat} {v : Value} {x : DataW H × List MemPlace} (ht : P.underlying t = some (.slice e)) (he : P.underlying e = some (.int .i64)) (hc : P.cellsOf e = 1)
    (h : DataW.trod enc P w base spare held fuel t [v] = some x) : ∃ zs, SlI (Lt w.heap.size) w v zs :=
  Sl.of_trod ht hc (by omega) (fun _ cs y hy => by
    obtain ⟨k, e1, e2, e3⟩ := DataW.trod_int he hy
    exact ⟨k, e1, fit_of_wf e3⟩) h
theorem SlS.of_trod {t e : TypeId} {fuel : Nat} {v : Value} {x : DataW H × List MemPlace} (ht : P.underlying t = some (.slice e)) (he : P.underlying e = some .string) (hc : P.cellsOf e = 1)
    (h : DataW.trod enc P w base spare held fuel t [v] = some x) : ∃ zs, SlS (Lt w.heap.size) w v zs :=
  Sl.of_trod ht hc (by omega) (fun _ cs y hy => by
    obtain ⟨k, e1, e2, e3⟩ := DataW.trod_string he hy
    exact ⟨k, e1, e3⟩) h
theorem post_of_below {f : Func} {s : ChangeSpec} {apart fresh handsOn again : Bool} {W W' : World} {args : Array Value} {v : Value} {ds gs : List (DataW H)} {before pa pv : List MemPlace}
    (hW : DataW.Whole enc P f.params.toList s.vars apart W args.toList ds gs before)
    (hres : ∀ (b : Nat) (sp : Nat → Bool) (hd : Bool), DataW.TrodAll enc P W' b sp hd f.resultTypes.toList (v.resultList f.resultTypes.size) (s.fn H (ds ++ gs)).results [])
    (hargs : ∀ sp : Nat → Bool, (∀ p ∈ before, sp p.block = true) → DataW.TrodAll enc P W' 0 sp true f.params.toList args.toList (s.fn H (ds ++ gs)).args pa)
    (hvars : ∀ sp : Nat → Bool, (∀ p ∈ before, sp p.block = true) → DataW.TrodVars enc P W' sp s.vars (s.fn H (ds ++ gs)).vars pv)
    (hps : before = pa ++ pv) (hb : Below W.heap.size W W')
    (hok : ∀ (j : Nat) (t : TypeId) (r : Value), f.resultTypes[j]? = some t → (v.resultList f.resultTypes.size)[j]? = some r → Value.okWide P W' .any 0 t r) :
    s.post enc P f apart fresh handsOn again W args v W' := by
  have hlt : ∀ p ∈ before, p.block < W.heap.size := fun p hp => hW.lt p hp
  have hold : ∀ p ∈ before, (fun b => decide (b < W.heap.size)) p.block = true := fun p hp => by simpa using hlt p hp
  refine ⟨ds, gs, before, [], pa, pv, hW, hres _ _ _, hargs _ hold, hvars _ hold, World.keptBut_mono (fun p hp => ⟨hp, ?_⟩) (hb.frame (· ∈ before)), fun _ => ?_⟩
  · rw [hps, List.mem_append] at hp
    exact Or.inr hp
  · obtain ⟨_, _, _, _, _, hz, hn⟩ := hW
    refine ⟨hok, _, _, ([] ++ pa) ++ pv, ⟨[] ++ pa, pv, trodAll_append (hargs _ (fun _ _ => rfl)) (hres _ _ _), hvars _ (fun _ _ => rfl), rfl, ?_, ?_⟩, ?_⟩
    · intro b off hp
      have hin : MemPlace.cell b off ∈ before := by rw [hps]; simpa using hp
      rw [hb.frozen (hlt _ hin)]
      exact hz b off hin
    · intro ha
      have := hn ha
      rw [hps] at this
      simpa using this
    · intro p hp _
      rw [hps]
      simpa using hp
end
end Go.Proofs.YtjglmjdfndcmmaaGreat

set_option linter.all false
namespace Go.Proofs.YtjglmjdfndcmmaaGreat
open Go.ChangeShapes Go.WideShapes Go.ChangeAt Go.RowKit Go.Deep
theorem own : ownKnob Tryz.prog.godebug = none := by kernel_rfl
theorem laidOut : laidOutB Tryz.prog = true := by kernel_rfl
theorem stays {H : Type} {enc : TypeId × Value → H} {t : TypeId} (hr : Tryz.prog.readableRec t = true) (hrow : t < Tryz.prog.types.size) {W W' : World} {v : Value} {d : DataW H} {ps : List MemPlace} {sp : Nat → Bool}
    (h : DataW.Trod enc Tryz.prog W 0 (fun _ => true) true t v d ps) (hb : Below W.heap.size W W') (hlt : ∀ x ∈ ps, x.block < W.heap.size) (hsp : ∀ x ∈ ps, sp x.block = true) : DataW.Trod enc Tryz.prog W' 0 sp true t v d ps :=
  WideElems.Trod_stays laidOut hr hrow h (fun x hx => hb.same (hlt x hx)) hsp
instance : Inhabited Fld := ⟨⟨emptyS, noV⟩⟩
instance : Inhabited Ev := ⟨⟨emptyS, emptyS, emptyS, 0, 0, []⟩⟩
section
variable {H : Type} {enc : TypeId × Value → H} {w : World} {base : Nat} {spare : Nat → Bool} {held : Bool}
end
end Go.Proofs.YtjglmjdfndcmmaaGreat

set_option linter.all false
namespace Go.Proofs.YtjglmjdfndcmmaaGreat
open Go.ChangeShapes Go.WideShapes Go.ChangeAt Go.RowKit Go.Deep
theorem readBytes : Tryz.prog.readableRec 22 = true := by kernel_rfl
theorem rowBytes : 22 < Tryz.prog.types.size := of_decide_eq_true (by kernel_rfl)
theorem cellsByte : Tryz.prog.cellsOf 5 = 1 := by kernel_rfl
section
variable {H : Type} {enc : TypeId × Value → H} {w : World} {base : Nat} {spare : Nat → Bool} {held : Bool}
theorem byte_of_wf {n : Int} (h : (Lit.int .u8 n).wf = true) : ∃ c : UInt8, n = (c.toNat : Int) := by
  have h' : decide ((0 : Int) ≤ n) = true ∧ decide (n ≤ (255 : Int)) = true := by
    rw [← Bool.and_eq_true]; exact h
  obtain ⟨h1, h2⟩ := h'
  have h1 := of_decide_eq_true h1
  have h2 := of_decide_eq_true h2
  exact ⟨UInt8.ofNat n.toNat, by rw [UInt8.toNat_ofNat']; omega⟩
set_option maxRecDepth 100000 in
theorem slice_of {r : Go.Reach} {b0 : Nat} {v : Value} {d : DataW H} {p : List MemPlace} {t e : TypeId} (hs : Tryz.prog.underlying t = some (.slice e)) (hv : Value.okWide Tryz.prog w r b0 t v) (h : DataW.Trod enc Tryz.prog w base spare held t v d p) : ∃ fuel x, DataW.trod enc Tryz.prog w base spare held fuel t [v] = some x := by
  obtain ⟨a, len, cap, rfl⟩ := okWide_slice hs hv
  obtain ⟨fuel, hf⟩ := h
  exact ⟨fuel, (d, p), hf⟩
theorem bytes_of {fuel : Nat} {v : Value} {x : DataW H × List MemPlace} (h : DataW.trod enc Tryz.prog w base spare held fuel 22 [v] = some x) : ∃ zs : List UInt8, SlC (Lt w.heap.size) w v zs :=
  Sl.of_trod (R := RByte) (size := 1) Tryz.underlying22 cellsByte (by omega) (fun fuel cs y hh => by
    obtain ⟨a, e0, _, w0⟩ := DataW.trod_int Tryz.underlying5 hh
    obtain ⟨c, rfl⟩ := byte_of_wf w0
    exact ⟨c, e0⟩) h
end
end Go.Proofs.YtjglmjdfndcmmaaGreat
