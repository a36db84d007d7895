/- Texts of this seat, merged. -/
import Derived.ProofKit
import Derived.Deep.Slices
import Derived.Deep.Fields
import Derived.Deep.Strs
import Derived.ChangeSame
import Derived.Lib.SmallJoins
import Derived.LaidMore
import Derived.OpenShut
import Derived.Stop.Joined
import Derived.Test.YtjglmjdfndcmmaaRows
import Derived.JoinedOf
import Derived.Handed
import Derived.Test.YtjglmjdfndcmmaaZo01
import Derived.Test.YtjglmjdfndcmmaaZo02
import Derived.Test.YtjglmjdfndcmmaaZo03
import Derived.Test.YtjglmjdfndcmmaaZo04
import Derived.Test.YtjglmjdfndcmmaaZo05
import Derived.Test.YtjglmjdfndcmmaaZo06
import Derived.Test.YtjglmjdfndcmmaaZo07
import Derived.Test.YtjglmjdfndcmmaaZo08
import Derived.Test.YtjglmjdfndcmmaaZo09
import Derived.Test.YtjglmjdfndcmmaaZo10
import Derived.Test.YtjglmjdfndcmmaaZo11
import Derived.Test.YtjglmjdfndcmmaaZo12
import Derived.Test.YtjglmjdfndcmmaaZo13
import Derived.Test.YtjglmjdfndcmmaaZo14
import Derived.Test.YtjglmjdfndcmmaaZo15
import Derived.Test.YtjglmjdfndcmmaaZo16
import Derived.Test.YtjglmjdfndcmmaaZo17
import Derived.Test.YtjglmjdfndcmmaaZo18
import Derived.Test.YtjglmjdfndcmmaaZo19
import Derived.Test.YtjglmjdfndcmmaaZo20
import Derived.Test.YtjglmjdfndcmmaaZo21
import Derived.Test.YtjglmjdfndcmmaaZo22
import Derived.Test.YtjglmjdfndcmmaaZo23
import Derived.Test.YtjglmjdfndcmmaaZo24
set_option linter.all false
set_option linter.all false
namespace Go.Proofs.Ytjglmjdfndcmmaa
open Go.RowKit
set_option maxHeartbeats 1000000 in
set_option maxRecDepth 100000 in
theorem logSame_ref (l : List Ev) (u v : Value) (w : World) (hu : IsLog (Lt w.heap.size) w u l) (hv : IsLog (Lt w.heap.size) w v l) :
    Calls Try.prog 18 #[u, v] w fun x w' => x = .returned (.bool true) ∧ Below w.heap.size w w' := by
  obtain ⟨_, rfl, hu⟩ := hu
  obtain ⟨_, rfl, hv⟩ := hv
  obtain ⟨A, c, rfl, _, _, hu⟩ := hu.open_
  obtain ⟨A2, c2, rfl, _, _, hv⟩ := hv.open_
  have HU := Lib.hid hu
  have HV := Lib.hid hv
  have hb1 := bone w (.cells #[.slice A l.length c] 24)
  have hb12 := bbox hb1 (.cells #[.slice A2 l.length c2] 24)
  have hB1 := (Blk.new w 24 #[.slice A l.length c]).now (bone _ (.cells #[.slice A2 l.length c2] 24))
  have hB2 := Blk.new (w.alloc (.cells #[.slice A l.length c] 24)) 24 #[.slice A2 l.length c2]
  rw [World.size_alloc] at hB2
  clear hu hv hb1
  go_enter Try.func18, Try.ntmps18
  go_wp2_with fail
  obtain ⟨w2, hw2⟩ : ∃ w2, (w.alloc (.cells #[.slice A l.length c] 24)).alloc (.cells #[.slice A2 l.length c2] 24) = w2 := ⟨_, rfl⟩
  rw [hw2] at hb12 hB1 hB2 ⊢
  clear hw2
  have HB12 := Lib.hid hb12
  have HB1 := Lib.hid hB1
  have HB2 := Lib.hid hB2
  clear hb12 hB1 hB2
  go_loopw [5] (fun iv wr => ∃ k : Nat, iv = .int .i64 (k : Int) ∧ k ≤ l.length ∧ Hid (Below w2.heap.size w2 wr)) (fun iv _ => l.length - (intOf iv).toNat)
  case atStart => exact ⟨0, rfl, Nat.zero_le _, Lib.hid (Below.refl _ _)⟩
  case round =>
    obtain ⟨k, rfl, hk, HR⟩ := hrel
    have hw12 := HB12.out.size
    have hB1r := HB1.out.now HR.out
    have hB2r := HB2.out.now HR.out
    have r1 := hB1r.c1
    have r2 := hB2r.c1
    by_cases hlt : k < l.length
    · have HBR := Lib.hid (HB12.out.trans (HR.out.mono hw12))
      obtain ⟨b, o, e, dv, rfl, hD, hx, _, hdv, f0, f1, f2, f3, f4, f5⟩ := SlEv.at_ HU.out hlt
      obtain ⟨b', o', e', dv', rfl, hD', hx', _, hdv', g0, g1, g2, g3, g4, g5⟩ := SlEv.at_ HV.out hlt
      rw [hx] at hx'
      injection hx' with hx'
      subst hx'
      have hE := fun W => HBR.out.trans ((ext_below wr W).mono HBR.out.size)
      have hES := fun W => (hE W).size
      have p0 := fun W => ((hE W).cell (p := ⟨b, o + k * 6, none⟩) hD).trans f0
      have p1 := fun W => ((hE W).cell (p := ⟨b, o + k * 6 + 1, none⟩) hD).trans f1
      have p2 := fun W => ((hE W).cell (p := ⟨b, o + k * 6 + 2, none⟩) hD).trans f2
      have p3 := fun W => ((hE W).cell (p := ⟨b, o + k * 6 + 3, none⟩) hD).trans f3
      have p4 := fun W => ((hE W).cell (p := ⟨b, o + k * 6 + 4, none⟩) hD).trans f4
      have p5 := fun W => ((hE W).cell (p := ⟨b, o + k * 6 + 5, none⟩) hD).trans f5
      have q0 := fun W => ((hE W).cell (p := ⟨b', o' + k * 6, none⟩) hD').trans g0
      have q1 := fun W => ((hE W).cell (p := ⟨b', o' + k * 6 + 1, none⟩) hD').trans g1
      have q2 := fun W => ((hE W).cell (p := ⟨b', o' + k * 6 + 2, none⟩) hD').trans g2
      have q3 := fun W => ((hE W).cell (p := ⟨b', o' + k * 6 + 3, none⟩) hD').trans g3
      have q4 := fun W => ((hE W).cell (p := ⟨b', o' + k * 6 + 4, none⟩) hD').trans g4
      have q5 := fun W => ((hE W).cell (p := ⟨b', o' + k * 6 + 5, none⟩) hD').trans g5
      have t1 : ∀ W, (ext wr W).cell? ⟨w.heap.size, 0, none⟩ = some (.slice (some ⟨b, o, none⟩) l.length c) := fun W => (hB1r.now (ext_below wr W)).c1
      have t2 : ∀ W, (ext wr W).cell? ⟨w.heap.size + 1, 0, none⟩ = some (.slice (some ⟨b', o', none⟩) l.length c2) := fun W => (hB2r.now (ext_below wr W)).c1
      have HS : Hid (∀ W, Calls Try.prog 42 #[.agg #[.string e.cas, .string e.act, .string e.res, .int .i64 e.life, .int .i64 e.time, dv], .agg #[.string e.cas, .string e.act, .string e.res, .int .i64 e.life, .int .i64 e.time, dv']] (ext wr W) fun x w' => x = .returned (.bool true) ∧ Below (ext wr W).heap.size (ext wr W) w') :=
        Lib.hid fun W => evSame_ref e dv dv' (ext wr W) (SlFl.below hdv (hE W) (hES W)) (SlFl.below hdv' (hE W) (hES W))
      have i1 : (0 : Int) ≤ (k : Int) := by omega
      have i2 : (k : Int) < (l.length : Int) := by omega
      have HR' := HR
      clear hx f0 f1 f2 f3 f4 f5 g0 g1 g2 g3 g4 g5 hdv hdv' hE hES hB1r hB2r
      go_upto_region 6 with fail
      refine wp_region_growV (by kernel_rfl) (by kernel_rfl) ?_
      repeat (refine veil_step (fun K hK => ?_); go_simp; first | (refine hK _ ?_; clear hK K) | (apply Exists.intro; refine ⟨fun Wq => ?_, hK _ ?_⟩; ((go_at_call 42; exact grow_of (HS.out Wq))); clear hK K))
      refine veil_nil ?_
      intro _ hw'
      obtain ⟨W, rfl⟩ := hw'
      go_wp2_with fail
      go_roundw
      case rel => exact ⟨k + 1, by go_num, by omega, Lib.hid (HR'.out.trans ((ext_below wr W).mono HR'.out.size))⟩
      case measure => simp [intOf]; omega
    · obtain rfl : k = l.length := by omega
      have z1 : ¬ (l.length : Int) < (l.length : Int) := by omega
      have HF := Lib.hid (HB12.out.trans (HR.out.mono hw12))
      clear hB1r hB2r
      go_wp2_with fail
      go_ret
      exact ⟨rfl, HF.out⟩
end Go.Proofs.Ytjglmjdfndcmmaa

set_option linter.all false
namespace Go.Proofs.Ytjglmjdfndcmmaa
open Go.RowKit
def YesO (w : World) (x : Ending) (w' : World) : Prop := x = .returned (.bool true) ∧ Below w.heap.size w w'
set_option maxHeartbeats 4000000 in
set_option maxRecDepth 100000 in
theorem archiveOpens_law (bs : List UInt8) (sealed : Bool) (ub : Value) (w : World) (hu : SlC (Lt w.heap.size) w ub bs) :
    Calls Try.prog 5 #[ub, .bool sealed] w (YesO w) := by
  have HAW := Lib.hid awake_any
  have HU := Lib.hid hu
  obtain ⟨Ab, cb, rfl, _, _, _⟩ := hu.open_
  clear hu
  go_enter Try.func5, Try.ntmps5
  go_wp2_with fail
  (with_reducible refine (HAW.out _).mono ?_)
  rintro e w1 ⟨rfl, hb1⟩
  have HSH := Lib.hid (short_any _ bs w1 (HU.out.now hb1))
  go_wp2_with fail
  (with_reducible refine HSH.out.mono ?_)
  rintro e w2 ⟨⟨q, rfl⟩, hb2⟩
  have hb12 := hb1.trans (hb2.mono hb1.size)
  cases q
  · go_wp2_with fail
    (with_reducible refine (HAW.out _).mono ?_)
    rintro e w3 ⟨rfl, hb3⟩
    go_wp2_with fail
    go_ret
    exact ⟨rfl, hb12.trans (hb3.mono hb12.size)⟩
  have HB12 := Lib.hid hb12
  clear hb1 hb2 hb12 HSH
  go_upto_region 3 with fail
  go_cut [24] from 19 to 58 (fun v W => v = .bool (sealed && decide (bs.length < 20000)) ∧ W = w2)
  case first =>
    cases sealed
    · go_wp2_with fail
      go_meet
      exact ⟨rfl, rfl⟩
    · by_cases h : bs.length < 20000
      · have z1 : (bs.length : Int) < 20000 := by omega
        have HZ : Hid (decide (bs.length < 20000) = true) := Lib.hid (by simpa using h)
        clear h
        go_wp2_with fail
        go_meet
        exact ⟨by rw [HZ.out]; rfl, rfl⟩
      · have z1 : ¬ (bs.length : Int) < 20000 := by omega
        have HZ : Hid (decide (bs.length < 20000) = false) := Lib.hid (by simpa using h)
        clear h
        go_wp2_with fail
        go_meet
        exact ⟨by rw [HZ.out]; rfl, rfl⟩
  case rest =>
    obtain ⟨rfl, rfl⟩ := hcut
    obtain ⟨cnd, hcnd⟩ : ∃ cnd, (sealed && decide (bs.length < 20000)) = cnd := ⟨_, rfl⟩
    have HCND := Lib.hid hcnd
    rw [hcnd]
    clear hcnd
    go_upto_if 24 with fail
    go_cut [0] from 25 to 58 (fun v W => ∃ ls, SlC (Lt W.heap.size) W v ls ∧ Below w.heap.size w W)
    case first =>
      cases cnd
      · go_wp2_with fail
        go_meet
        exact ⟨bs, HU.out.now HB12.out, HB12.out⟩
      · have hlen : bs.length < 20000 := by have := HCND.out; simp at this; exact this.2
        have HCL := Lib.hid (cloneB _ bs wc (HU.out.now HB12.out) (by omega))
        clear HCND
        go_wp2_with fail
        (with_reducible refine HCL.out.mono ?_)
        rintro e w3 ⟨v3, rfl, hO3, hb3⟩
        have hb13 := HB12.out.trans (hb3.mono HB12.out.size)
        have HSM := Lib.hid (sum_ref _ bs w3 hO3.slC)
        have hsl := sumOf_lt bs
        generalize sumOf bs = s at *
        have HO3 := Lib.hid hO3
        have HB13 := Lib.hid hb13
        have HB3 := Lib.hid hb3
        clear hO3 hb3 hb13 HCL
        go_wp2_with fail
        (with_reducible refine HSM.out.mono ?_)
        rintro e w4 ⟨rfl, rfl⟩
        go_wp2_with fail
        go_loopw [0, 5, 6] (fun sv kv tv wr => ∃ k : Nat, kv = .int .i64 (k : Int) ∧ tv = .int .i64 ((s / 256 ^ k : Nat) : Int) ∧ k ≤ 4 ∧ Hid (OwnC wr wc.heap.size sv (bs ++ le4To s k)) ∧ Hid (Below wc.heap.size wc wr)) (fun _ kv _ _ => 4 - (intOf kv).toNat)
        case atStart => exact ⟨0, rfl, by simp, by omega, Lib.hid (by simpa [le4To] using HO3.out), HB3⟩
        case round =>
          obtain ⟨k, rfl, rfl, hk, HO, HB⟩ := hrel
          by_cases hlt : k < 4
          · have HT := Lib.hid (le4To_succ (s := s) hlt)
            have hs2 : s / 256 ^ k < 4294967296 := Nat.lt_of_le_of_lt (Nat.div_le_self _ _) hsl
            have HD : Hid (s / 256 ^ (k + 1) = s / 256 ^ k / 256) := Lib.hid (by rw [Nat.pow_succ, Nat.div_div_eq_div_mul])
            generalize s / 256 ^ k = z at *
            have HZ := Lib.hid (show (z : Int) % 256 = ((UInt8.ofNat (z % 256)).toNat : Int) by rw [UInt8.toNat_ofNat']; omega)
            have hown := HO.out
            have hszr := HB.out.size
            have hll : (bs ++ le4To s k).length < 10000000 := by
              have : (le4To s k).length ≤ 4 := by unfold le4To; rw [List.length_take]; exact Nat.le_trans (Nat.min_le_left _ _) hk
              rw [List.length_append]; omega
            go_wp2_with (at_builtin; refine wpList_pushC rfl (.tmp 35) (.tmp 39) rfl (UInt8.ofNat (z % 256)) _ HZ.out rfl hown rfl hll hszr ?_; intro v' w' hA)
            have HBN := Lib.hid (HB.out.trans (below_of_grown hA.grown hszr (fun g hg => (World.ownsRow.lt hown g hg).1)))
            go_wp2_with fail
            go_roundw
            case rel =>
              refine ⟨k + 1, by go_num, ?_, by omega, Lib.hid ?_, HBN⟩
              · rw [HD.out]; go_num
              · rw [HT.out, ← List.append_assoc]
                exact hA.own
            case measure => simp [intOf]; omega
          · obtain rfl : k = 4 := by omega
            have z1 : ¬ ((4 : Nat) : Int) < 4 := by omega
            have HF := Lib.hid (HB12.out.trans (HB.out.mono HB12.out.size))
            go_wp2_with fail
            go_meet
            exact ⟨_, HO.out.slC, HF.out⟩
    case rest =>
      obtain ⟨ls, hs5, hb5⟩ := hcut
      obtain ⟨w5, hw5⟩ : ∃ w5, wc = w5 := ⟨_, rfl⟩
      rw [hw5] at hs5 hb5 ⊢
      clear hw5
      have HB5 := Lib.hid hb5
      have HS5 := Lib.hid hs5
      have HO1 := Lib.hid (open_any _ ls w5 hs5)
      clear hb5 hs5 HU HB12 HCND HAW
      go_wp2_with fail
      (with_reducible refine HO1.out.mono ?_)
      rintro e w6 ⟨ev, x, k, rfl, hx, hsaid, hb6⟩
      have hb56 := HB5.out.trans (hb6.mono HB5.out.size)
      have hB6 := Blk.new w6 24 #[ev]
      have hb7 := bone w6 (.cells #[ev] 24)
      have HX := Lib.hid (SlEv.now hx hb7)
      have HSD := Lib.hid hsaid
      have HO2 := Lib.hid (open_ref _ ls _ ((HS5.out.now hb6).now hb7))
      have HB7 := Lib.hid (hb56.trans (hb7.mono hb56.size))
      obtain ⟨A6, c6, rfl, _, _, _⟩ := hx.open_
      clear hx hsaid hb6 hb56 hb7 HO1
      go_wp2_with fail
      (with_reducible refine HO2.out.mono ?_)
      rintro e w8 ⟨ev2, x2, k2, rfl, hx2, hsaid2, hb8⟩
      obtain ⟨rfl, rfl⟩ := HSD.out.unique hsaid2
      obtain ⟨A8, c8, rfl, _, _, _⟩ := hx2.open_
      have hb9 := bone w8 (.cells #[.slice A8 x2.length c8] 24)
      have hb79 := HB7.out.trans (hb8.mono HB7.out.size)
      have hb19 := hb79.trans (hb9.mono hb79.size)
      have hB7 := ((hB6.now hb8).now hb9)
      have hB9 := Blk.new w8 24 #[.slice A8 x2.length c8]
      have c7 := hB7.c1
      have c9 := hB9.c1
      have HSM := Lib.hid (logSame_ref x2 (.agg #[.slice A6 x2.length c6]) (.agg #[.slice A8 x2.length c8]) _ ⟨_, rfl, (HX.out.now hb8).now hb9⟩ ⟨_, rfl, SlEv.now hx2 hb9⟩)
      have HB9 := Lib.hid hb19
      clear hx2 hsaid2 hb8 hb9 hb79 hb19 hB7 hB9 hB6 HO2
      go_wp2_with fail
      (with_reducible refine HSM.out.mono ?_)
      rintro e w10 ⟨rfl, hb10⟩
      go_wp2_with fail
      go_ret
      exact ⟨rfl, HB9.out.trans (hb10.mono HB9.out.size)⟩
end Go.Proofs.Ytjglmjdfndcmmaa

set_option linter.all false
namespace Go.Proofs.Ytjglmjdfndcmmaa
open Go.ChangeShapes Go.WideShapes Go.RowKit Go.Deep
theorem add_lit' (b o n j : Nat) : ((⟨b, o, none⟩ : Addr).add n).add j = ⟨b, o + n + j, none⟩ := by
  rw [add_add']; unfold Addr.add
  by_cases h : n + j = 0
  · have h1 : n = 0 := by omega
    have h2 : j = 0 := by omega
    subst h1 h2; rfl
  · rw [if_neg h]; simp [Nat.add_assoc]
theorem cell_spot {w : World} {a : Addr} {u : Value} (h : w.cell? a = some u) : a = ⟨a.block, a.off, none⟩ ∧ a.block < w.heap.size := by
  obtain ⟨b, o, s⟩ := a
  unfold World.cell? at h
  cases s with
  | none =>
    refine ⟨rfl, ?_⟩
    rcases Nat.lt_or_ge b w.heap.size with h' | h'
    · exact h'
    · simp [Array.getElem?_eq_none h'] at h
  | some s => split at h <;> simp at h
section
variable {H : Type} {enc : TypeId × Value → H} {P : Program} {w : World} {base : Nat} {spare : Nat → Bool} {held : Bool}
theorem Sl.of_trod {α : Type} [Inhabited α] {size : Nat} {R : ElemR α} {t e : TypeId} {fuel : Nat} {v : Value} {x : DataW H × List MemPlace} (ht : P.underlying t = some (.slice e)) (hsz : P.cellsOf e = size) (hs0 : 0 < size)
    (hR : ∀ (fuel' : Nat) (cs : List Value) (y : DataW H × List MemPlace), DataW.trod enc P w base spare held fuel' e cs = some y → ∃ z, R (Lt w.heap.size) w z cs)
    (h : DataW.trod enc P w base spare held fuel t [v] = some x) : ∃ xs, Sl size R (Lt w.heap.size) w v xs := by
  rcases open_slice ht h with ⟨hv, _⟩ | ⟨a, len, cap, m, n, D, Pl, hv, _, hl, hm, hmm, _, hi⟩
  · injection hv with hv; subst hv; exact ⟨[], Sl.none_⟩
  · injection hv with hv
    subst hv
    have hlm : len ≤ m := by rw [hmm]; split <;> omega
    have key : ∀ i, ∃ z : α, i < len → ∃ cs : List Value, cs.length = size ∧ R (Lt w.heap.size) w z cs ∧ ∀ j, j < size → w.cell? ((a.add (i * size)).add j) = cs[j]? := by
      intro i
      by_cases hlt : i < len
      · obtain ⟨cs', hc, htr⟩ := hi i (by omega)
        rw [hsz] at hc
        obtain ⟨z, hz⟩ := hR _ _ _ htr
        obtain ⟨_, hcl, hat⟩ := World.cells?_some hc
        exact ⟨z, fun _ => ⟨cs', hcl, hz, hat⟩⟩
      · exact ⟨default, fun h' => absurd h' hlt⟩
    refine ⟨(List.range len).map fun i => Classical.choose (key i), some a, cap, by simp, by simpa using hl, hm, fun i z hz => ?_⟩
    rw [List.getElem?_map] at hz
    have hlt : i < len := by
      rcases Nat.lt_or_ge i len with h' | h'
      · exact h'
      · rw [List.getElem?_eq_none (by simpa using h')] at hz; simp at hz
    rw [List.getElem?_range hlt] at hz
    injection hz with hz
    obtain ⟨cs, hcl, hr, hat⟩ := Classical.choose_spec (key i) hlt
    obtain ⟨cs0, hcl0, _, hat0⟩ := Classical.choose_spec (key 0) (by omega)
    have h00 := hat0 0 hs0
    have hc0 : cs0[0]? = some (cs0[0]'(by omega)) := List.getElem?_eq_getElem (by omega)
    rw [hc0] at h00
    have ha0 : (a.add (0 * size)).add 0 = a := by simp [Addr.add]
    rw [ha0] at h00
    obtain ⟨ha, hblk⟩ := cell_spot h00
    replace hz : Classical.choose (key i) = z := hz
    rw [hz] at hr
    refine ⟨a.block, a.off, cs, by rw [← ha], hblk, hcl, hr, fun j u hu => ?_⟩
    have hj : j < size := by
      rcases Nat.lt_or_ge j cs.length with h' | h'
      · omega
      · rw [List.getElem?_eq_none h'] at hu; cases hu
    have := hat j hj
    rw [ha, add_lit'] at this
    rw [this, hu]
theorem fit_of_wf {n : Int} (h : (Lit.int .i64 n).wf = true) : Fit n := by
  have h' : decide ((-9223372036854775808 : Int) ≤ n) = true ∧ decide (n ≤ (9223372036854775807 : Int)) = true := by
    rw [← Bool.and_eq_true]; exact h
  unfold Fit
  simpa using h'
theorem SlI.of_trod {t e : TypeId} {fuel : Nat} {v : Value} {x : DataW H × List MemPlace} (ht : P.underlying t = some (.slice e)) (he : P.underlying e = some (.int .i64)) (hc : P.cellsOf e = 1)
    (h : DataW.trod enc P w base spare held fuel t [v] = some x) : ∃ zs, SlI (Lt w.heap.size) w v zs :=
  Sl.of_trod ht hc (by omega) (fun _ cs y hy => by
    obtain ⟨k, e1, e2, e3⟩ := DataW.trod_int he hy
    exact ⟨k, e1, fit_of_wf e3⟩) h
theorem SlS.of_trod {t e : TypeId} {fuel : Nat} {v : Value} {x : DataW H × List MemPlace} (ht : P.underlying t = some (.slice e)) (he : P.underlying e = some .string) (hc : P.cellsOf e = 1)
    (h : DataW.trod enc P w base spare held fuel t [v] = some x) : ∃ zs, SlS (Lt w.heap.size) w v zs :=
  Sl.of_trod ht hc (by omega) (fun _ cs y hy => by
    obtain ⟨k, e1, e2, e3⟩ := DataW.trod_string he hy
    exact ⟨k, e1, e3⟩) h
theorem post_of_below {f : Func} {s : ChangeSpec} {apart fresh handsOn again : Bool} {W W' : World} {args : Array Value} {v : Value} {ds gs : List (DataW H)} {before pa pv : List MemPlace}
    (hW : DataW.Whole enc P f.params.toList s.vars apart W args.toList ds gs before)
    (hres : ∀ (b : Nat) (sp : Nat → Bool) (hd : Bool), DataW.TrodAll enc P W' b sp hd f.resultTypes.toList (v.resultList f.resultTypes.size) (s.fn H (ds ++ gs)).results [])
    (hargs : ∀ sp : Nat → Bool, (∀ p ∈ before, sp p.block = true) → DataW.TrodAll enc P W' 0 sp true f.params.toList args.toList (s.fn H (ds ++ gs)).args pa)
    (hvars : ∀ sp : Nat → Bool, (∀ p ∈ before, sp p.block = true) → DataW.TrodVars enc P W' sp s.vars (s.fn H (ds ++ gs)).vars pv)
    (hps : before = pa ++ pv) (hb : Below W.heap.size W W')
    (hok : ∀ (j : Nat) (t : TypeId) (r : Value), f.resultTypes[j]? = some t → (v.resultList f.resultTypes.size)[j]? = some r → Value.okWide P W' .any 0 t r) :
    s.post enc P f apart fresh handsOn again W args v W' := by
  have hlt : ∀ p ∈ before, p.block < W.heap.size := fun p hp => hW.lt p hp
  have hold : ∀ p ∈ before, (fun b => decide (b < W.heap.size)) p.block = true := fun p hp => by simpa using hlt p hp
  refine ⟨ds, gs, before, [], pa, pv, hW, hres _ _ _, hargs _ hold, hvars _ hold, World.keptBut_mono (fun p hp => ⟨hp, ?_⟩) (hb.frame (· ∈ before)), fun _ => ?_⟩
  · rw [hps, List.mem_append] at hp
    exact Or.inr hp
  · obtain ⟨_, _, _, _, _, hz, hn⟩ := hW
    refine ⟨hok, _, _, ([] ++ pa) ++ pv, ⟨[] ++ pa, pv, trodAll_append (hargs _ (fun _ _ => rfl)) (hres _ _ _), hvars _ (fun _ _ => rfl), rfl, ?_, ?_⟩, ?_⟩
    · intro b off hp
      have hin : MemPlace.cell b off ∈ before := by rw [hps]; simpa using hp
      rw [hb.frozen (hlt _ hin)]
      exact hz b off hin
    · intro ha
      have := hn ha
      rw [hps] at this
      simpa using this
    · intro p hp _
      rw [hps]
      simpa using hp
end
end Go.Proofs.Ytjglmjdfndcmmaa

set_option linter.all false
namespace Go.Proofs.Ytjglmjdfndcmmaa
open Go.ChangeShapes Go.WideShapes Go.ChangeAt Go.RowKit Go.Deep
theorem own : ownKnob Try.prog.godebug = none := by kernel_rfl
theorem laidOut : laidOutB Try.prog = true := by kernel_rfl
theorem stays {H : Type} {enc : TypeId × Value → H} {t : TypeId} (hr : Try.prog.readableRec t = true) (hrow : t < Try.prog.types.size) {W W' : World} {v : Value} {d : DataW H} {ps : List MemPlace} {sp : Nat → Bool}
    (h : DataW.Trod enc Try.prog W 0 (fun _ => true) true t v d ps) (hb : Below W.heap.size W W') (hlt : ∀ x ∈ ps, x.block < W.heap.size) (hsp : ∀ x ∈ ps, sp x.block = true) : DataW.Trod enc Try.prog W' 0 sp true t v d ps :=
  WideElems.Trod_stays laidOut hr hrow h (fun x hx => hb.same (hlt x hx)) hsp
instance : Inhabited Fld := ⟨⟨emptyS, noV⟩⟩
instance : Inhabited Ev := ⟨⟨emptyS, emptyS, emptyS, 0, 0, []⟩⟩
section
variable {H : Type} {enc : TypeId × Value → H} {w : World} {base : Nat} {spare : Nat → Bool} {held : Bool}
end
end Go.Proofs.Ytjglmjdfndcmmaa

set_option linter.all false
namespace Go.Proofs.Ytjglmjdfndcmmaa
open Go.ChangeShapes Go.WideShapes Go.ChangeAt Go.RowKit Go.Deep
theorem readBytes : Try.prog.readableRec 25 = true := by kernel_rfl
theorem rowBytes : 25 < Try.prog.types.size := of_decide_eq_true (by kernel_rfl)
theorem cellsByte : Try.prog.cellsOf 5 = 1 := by kernel_rfl
section
variable {H : Type} {enc : TypeId × Value → H} {w : World} {base : Nat} {spare : Nat → Bool} {held : Bool}
theorem byte_of_wf {n : Int} (h : (Lit.int .u8 n).wf = true) : ∃ c : UInt8, n = (c.toNat : Int) := by
  have h' : decide ((0 : Int) ≤ n) = true ∧ decide (n ≤ (255 : Int)) = true := by
    rw [← Bool.and_eq_true]; exact h
  obtain ⟨h1, h2⟩ := h'
  have h1 := of_decide_eq_true h1
  have h2 := of_decide_eq_true h2
  exact ⟨UInt8.ofNat n.toNat, by rw [UInt8.toNat_ofNat']; omega⟩
set_option maxRecDepth 100000 in
theorem slice_of {r : Go.Reach} {b0 : Nat} {v : Value} {d : DataW H} {p : List MemPlace} {t e : TypeId} (hs : Try.prog.underlying t = some (.slice e)) (hv : Value.okWide Try.prog w r b0 t v) (h : DataW.Trod enc Try.prog w base spare held t v d p) : ∃ fuel x, DataW.trod enc Try.prog w base spare held fuel t [v] = some x := by
  obtain ⟨a, len, cap, rfl⟩ := okWide_slice hs hv
  obtain ⟨fuel, hf⟩ := h
  exact ⟨fuel, (d, p), hf⟩
theorem bytes_of {fuel : Nat} {v : Value} {x : DataW H × List MemPlace} (h : DataW.trod enc Try.prog w base spare held fuel 25 [v] = some x) : ∃ zs : List UInt8, SlC (Lt w.heap.size) w v zs :=
  Sl.of_trod (R := RByte) (size := 1) Try.underlying25 cellsByte (by omega) (fun fuel cs y hh => by
    obtain ⟨a, e0, _, w0⟩ := DataW.trod_int Try.underlying5 hh
    obtain ⟨c, rfl⟩ := byte_of_wf w0
    exact ⟨c, e0⟩) h
end
end Go.Proofs.Ytjglmjdfndcmmaa
