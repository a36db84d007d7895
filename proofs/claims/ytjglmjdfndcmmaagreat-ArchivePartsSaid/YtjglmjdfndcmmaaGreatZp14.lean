/- Texts of this seat, merged. -/
import Derived.BigQuiet
import Derived.Deep.QuietTactic
import Derived.Deep.RegionHeld3
import Derived.Deep.CutRange
import Derived.Laws.StructEq
import Derived.Test.YtjglmjdfndcmmaaGreatZp01
import Derived.Test.YtjglmjdfndcmmaaGreatZp02
import Derived.Test.YtjglmjdfndcmmaaGreatZp03
import Derived.Test.YtjglmjdfndcmmaaGreatZp04
import Derived.Test.YtjglmjdfndcmmaaGreatZp05
import Derived.Test.YtjglmjdfndcmmaaGreatZp06
import Derived.Test.YtjglmjdfndcmmaaGreatZp07
import Derived.Test.YtjglmjdfndcmmaaGreatZp08
import Derived.Test.YtjglmjdfndcmmaaGreatZp09
import Derived.Test.YtjglmjdfndcmmaaGreatZp10
import Derived.Test.YtjglmjdfndcmmaaGreatZp11
import Derived.Test.YtjglmjdfndcmmaaGreatZp12
import Derived.Test.YtjglmjdfndcmmaaGreatZp13
set_option linter.all false
set_option linter.all false
namespace Go.Proofs.YtjglmjdfndcmmaaGreat
open Go.RowKit
def RetOpen (l : List UInt8) (w : World) (e : Ending) (w' : World) : Prop := ∃ (ev : Value) (x : List Ev) (k : Int), e = .returned (.tuple #[.agg #[ev], .int .i64 k]) ∧ SlEv (fun b => w.heap.size ≤ b ∧ b < w'.heap.size) w' ev x ∧ OpenSaid l x k ∧ Below w.heap.size w w'
def RetOpenW (l : List UInt8) (w : World) (e : Ending) (w' : World) : Prop := ∃ (ev : Value) (x : List Ev) (k : Int), e = .returned (.tuple #[.agg #[ev], .int .i64 k]) ∧ (SlEv (fun b => w.heap.size < b ∧ b < w'.heap.size) w' ev x ∧ ∃ A, ev = .slice A x.length x.length) ∧ OpenSaid l x k ∧ Below w.heap.size w w'
theorem RetOpenW.weak {l : List UInt8} {w w' : World} {e : Ending} (h : RetOpenW l w e w') : RetOpen l w e w' := by
  obtain ⟨ev, x, k, h1, h2, h3, h4⟩ := h
  exact ⟨ev, x, k, h1, Sl.keep h2.1 REv.kept (fun b hb => ⟨Nat.le_of_lt hb.1, hb.2⟩) (Same.refl _ _), h3, h4⟩
theorem retOpenW_err {l : List UInt8} {w W : World} {k : Int} (h : OpenSaid l [] k) (hb : Below w.heap.size w W) : RetOpenW l w (.returned (.tuple #[.agg #[.slice none 0 0], .int .i64 k])) W :=
  ⟨.slice none 0 0, [], k, rfl, ⟨Sl.none_, none, rfl⟩, h, hb⟩
theorem retOpenW_good {l : List UInt8} {w : World} (h4 : 4 ≤ l.length) (hm : l.length ≤ 262144) (hs : SumOk l) {e : Ending} {w' : World} (h : RetOpenO l w e w') : RetOpenW l w e w' := by
  obtain ⟨ev, x, k, h1, h2, h3, h5⟩ := h
  exact ⟨ev, x, k, h1, h2, .inr (.inr ⟨hm, h4, hs, h3⟩), h5⟩
theorem SlEv.fresh {lo : Nat} {w : World} {v : Value} {x : List Ev} (h : SlEv (fun b => lo ≤ b ∧ b < w.heap.size) w v x) : SlEv (Lt w.heap.size) w v x := Sl.keep h REv.kept (fun b hb => hb.2) (Same.refl _ _)
theorem retOpen_err {l : List UInt8} {w W : World} {k : Int} (h : OpenSaid l [] k) (hb : Below w.heap.size w W) : RetOpen l w (.returned (.tuple #[.agg #[.slice none 0 0], .int .i64 k])) W :=
  ⟨.slice none 0 0, [], k, rfl, Sl.none_, h, hb⟩
theorem retOpen_good {l : List UInt8} {w : World} (h4 : 4 ≤ l.length) (hm : l.length ≤ 262144) (hs : SumOk l) {e : Ending} {w' : World} (h : RetOpenG l w e w') : RetOpen l w e w' := by
  obtain ⟨ev, x, k, h1, h2, h3, h5⟩ := h
  exact ⟨ev, x, k, h1, h2, .inr (.inr ⟨hm, h4, hs, h3⟩), h5⟩
set_option maxHeartbeats 1000000 in
set_option maxRecDepth 100000 in
theorem open_own (u : Value) (l : List UInt8) (w : World) (h : SlC (Lt w.heap.size) w u l) : Calls Tryz.prog 21 #[u] w (RetOpenW l w) := by
  by_cases hbig : 262144 < l.length
  · have HF := Lib.hid (retOpenW_err (l := l) (w := w) (k := 5) (.inl ⟨hbig, rfl, rfl⟩) (bone w (.cells #[.slice none 0 0] 25)))
    obtain ⟨A, c, rfl, h1, h2, hs⟩ := h.open_
    have z1 : (262144 : Int) < (l.length : Int) := by omega
    have hB := Blk.new w 25 #[.slice none 0 0]
    have r0 := hB.c1
    have fz := hB.frozen 0
    have r1 := (hB.set_ 0 (.slice none 0 0)).c1
    clear h hs hB
    go_enter Tryz.func21, Tryz.ntmps21
    go_wp2_with fail
    refine bodyPost_ret (v := .tuple #[.agg #[.slice none 0 0], .int .i64 5]) (by simp [results, Tryz.results21, go_sem, r1]) rfl ?_
    exact HF.out
  · by_cases h4 : l.length < 4
    · have HF := Lib.hid (retOpenW_err (l := l) (w := w) (k := 14) (.inr (.inl ⟨by omega, .inl h4, rfl, rfl⟩)) (bone w (.cells #[.slice none 0 0] 25)))
      obtain ⟨A, c, rfl, h1, h2, hs⟩ := h.open_
      have z1 : ¬ (262144 : Int) < (l.length : Int) := by omega
      have z2 : (l.length : Int) < 4 := by omega
      have hB := Blk.new w 25 #[.slice none 0 0]
      have r0 := hB.c1
      have fz := hB.frozen 0
      have r1 := (hB.set_ 0 (.slice none 0 0)).c1
      clear h hs hB
      go_enter Tryz.func21, Tryz.ntmps21
      go_wp2_with fail
      refine bodyPost_ret (v := .tuple #[.agg #[.slice none 0 0], .int .i64 14]) (by simp [results, Tryz.results21, go_sem, r1]) rfl ?_
      exact HF.out
    · by_cases hs : SumOk l
      · exact (open_goodO u l w h (by omega) (by omega) hs).mono fun e w' hr => retOpenW_good (by omega) (by omega) hs hr
      · refine (open_bad u l w h (by omega) (by omega) hs).mono ?_
        rintro e w' ⟨rfl, hb⟩
        exact retOpenW_err (.inr (.inl ⟨by omega, .inr hs, rfl, rfl⟩)) hb
theorem open_any (u : Value) (l : List UInt8) (w : World) (h : SlC (Lt w.heap.size) w u l) : Calls Tryz.prog 21 #[u] w (RetOpen l w) := (open_own u l w h).mono fun _ _ h => h.weak
set_option maxHeartbeats 4000000 in
set_option maxRecDepth 100000 in
theorem open_refB (u : Value) (l : List UInt8) (w : World) (h : SlC (Lt w.heap.size) w u l) (h4 : 4 ≤ l.length) (hm : l.length ≤ 262144) (hne : ¬ SumOk l) :
    Calls Tryz.prog 14 #[u] w (RetOpen l w) := by
  have hm0 := hm
  have hbad := hne
  unfold SumOk at hne
  obtain ⟨A, c, rfl, h1, h2, hs⟩ := h.open_
  obtain ⟨b, o, _, rfl, _, _, _⟩ := SlC.at_ hs (k := 0) (by omega)
  obtain ⟨n, hn⟩ : ∃ n, l.length = n + 4 := ⟨l.length - 4, by omega⟩
  have hn4 : l.length - 4 = n := by omega
  have HBD : Hid (l.take n = l.take (l.length - 4)) := Lib.hid (by rw [hn4])
  have hbl : (l.take n).length = n := by rw [List.length_take]; omega
  rw [hn4] at hne
  rw [hn] at hs h1 hm ⊢
  have hs1 : SlC (Lt w.heap.size) w (.slice (some ⟨b, o, none⟩) n c) (l.take n) := by
    have := Sl.sub hs 0 n c (by omega) (by omega) (by unfold maxLen; exact h2)
    rw [Nat.zero_mul, Nat.add_zero, List.drop_zero] at this
    exact this
  have hb1 := bone w (.cells #[.slice none 0 0] 25)
  have hB1 := Blk.new w 25 #[.slice none 0 0]
  obtain ⟨x0, x1, x2, x3, hd4, k0, k1, k2, k3⟩ := last4 (hs.now hb1) hn
  have hsl := sumOf_lt (l.take n)
  rw [hd4] at hne
  have hsv : ¬ sumOf (l.take n) = x0.toNat + 256 * x1.toNat + 65536 * x2.toNat + 16777216 * x3.toNat := fun h => hne ((le4_val hsl x0 x1 x2 x3).2 h)
  have HS0 := Lib.hid hs
  have HS1 := Lib.hid hs1
  have hsm := fun q : Nat => sum_ref _ _ _ (hs1.now (below_drewN hb1 q))
  have HOE := Lib.hid (fun W : World => retOpen_err (l := l) (w := w) (W := W) (k := 14) (.inr (.inl ⟨hm0, .inr hbad, rfl, rfl⟩)))
  obtain ⟨S, hS⟩ : ∃ S : Int, ((sumOf (l.take n) : Nat) : Int) = S := ⟨_, rfl⟩
  have hsz : (S != (x0.toNat : Int) + 256 * (x1.toNat : Int) + 65536 * (x2.toNat : Int) + 16777216 * (x3.toNat : Int)) = true := by
    rw [bne_iff_ne, ← hS]
    intro e
    exact hsv (by omega)
  rw [hS] at hsm
  clear hS
  have hx0 := UInt8.toNat_lt x0
  have hx1 := UInt8.toNat_lt x1
  have hx2 := UInt8.toNat_lt x2
  have hx3 := UInt8.toNat_lt x3
  have hsums := sums (n := n) (a := (x0.toNat : Int)) (b := (x1.toNat : Int)) (c := (x2.toNat : Int)) (d := (x3.toNat : Int)) (by omega) (by omega) (by omega) (by omega) (by omega)
  generalize (x0.toNat : Int) = y0 at *
  generalize (x1.toNat : Int) = y1 at *
  generalize (x2.toNat : Int) = y2 at *
  generalize (x3.toNat : Int) = y3 at *
  have hnn : (0 : Int) ≤ (n : Int) := by omega
  have hn1 : (0 : Int) ≤ (n : Int) + 1 := by omega
  have hn2 : (0 : Int) ≤ (n : Int) + 2 := by omega
  have hn3 : (0 : Int) ≤ (n : Int) + 3 := by omega
  have hl0 : (n : Int) < (n : Int) + 4 := by omega
  have hl1 : (n : Int) + 1 < (n : Int) + 4 := by omega
  have hl2 : (n : Int) + 2 < (n : Int) + 4 := by omega
  have hl3 : (n : Int) + 3 < (n : Int) + 4 := by omega
  have ht1 : ((n : Int) + 1).toNat = n + 1 := by omega
  have ht2 : ((n : Int) + 2).toNat = n + 2 := by omega
  have ht3 : ((n : Int) + 3).toNat = n + 3 := by omega
  have hbi : ¬ (262144 : Int) < (n : Int) + 4 := by omega
  have hnb : (n : Int) ≤ 262140 := by omega
  have hnc : n ≤ c := by omega
  have HLN := Lib.hid hn
  have hHSM : Hid (∀ q : Nat, Calls Tryz.prog 32 #[.slice (some ⟨b, o, none⟩) n c] ((w.alloc (.cells #[.slice none 0 0] 25)).drewN q) fun e w' => e = .returned (.int .i64 S) ∧ ∃ m, w' = ((w.alloc (.cells #[.slice none 0 0] 25)).drewN q).drewN m) := Lib.hid (fun q => (hsm q).mono fun e w' ⟨he, hw⟩ => ⟨he, 0, hw.symm⟩)
  obtain ⟨body, hbody⟩ : ∃ body, l.take n = body := ⟨_, rfl⟩
  rw [hbody] at HBD hbl HS1
  have HBL := Lib.hid hbl
  have HSU := Lib.hid hsums
  clear hm hn hbody hsm hsums
  clear hs hs1 h hn4 h4 hne hbad hm0 hd4 hsv hsl hx0 hx1 hx2 hx3
  go_enter Tryz.func14, Tryz.ntmps14
  go_upto_region 6 with fail
  obtain ⟨a1, a2, a3, c0, c1, c2, c3, m1, m2, m3, s1, s2, s3⟩ := HSU.out
  go_quiet ((go_at_call 32; (with_reducible exact Calls.quiet_of (hHSM.out _))))
  clear a1 a2 a3 c0 c1 c2 c3 m1 m2 m3 s1 s2 s3 HSU hn1 hn2 hn3 hl0 hl1 hl2 hl3 ht1 ht2 ht3
  have hb12 := below_drewN hb1 nq
  have hBP := hB1.drewN nq
  have r0 := hBP.c1
  have fz := hBP.frozen 0
  have r1 := (hBP.set_ 0 (.slice none 0 0)).c1
  have HF := Lib.hid (HOE.out _ (hb12.setCell (p := ⟨w.heap.size, 0, none⟩) (Nat.le_refl _) (.slice none 0 0)))
  clear hBP hB1 hHSM
  go_wp2_with fail
  refine bodyPost_ret (v := .tuple #[.agg #[.slice none 0 0], .int .i64 14]) (by simp [results, Tryz.results14, go_sem, r1]) rfl ?_
  exact HF.out
set_option maxHeartbeats 1000000 in
set_option maxRecDepth 100000 in
theorem open_ref (u : Value) (l : List UInt8) (w : World) (h : SlC (Lt w.heap.size) w u l) : Calls Tryz.prog 14 #[u] w (RetOpen l w) := by
  by_cases hbig : 262144 < l.length
  · have HF := Lib.hid (retOpen_err (l := l) (w := w) (k := 5) (.inl ⟨hbig, rfl, rfl⟩) (bone w (.cells #[.slice none 0 0] 25)))
    obtain ⟨A, c, rfl, h1, h2, hs⟩ := h.open_
    have z1 : (262144 : Int) < (l.length : Int) := by omega
    have hB := Blk.new w 25 #[.slice none 0 0]
    have r0 := hB.c1
    have fz := hB.frozen 0
    have r1 := (hB.set_ 0 (.slice none 0 0)).c1
    clear h hs hB
    go_enter Tryz.func14, Tryz.ntmps14
    go_wp2_with fail
    refine bodyPost_ret (v := .tuple #[.agg #[.slice none 0 0], .int .i64 5]) (by simp [results, Tryz.results14, go_sem, r1]) rfl ?_
    exact HF.out
  · by_cases h4 : l.length < 4
    · have HF := Lib.hid (retOpen_err (l := l) (w := w) (k := 14) (.inr (.inl ⟨by omega, .inl h4, rfl, rfl⟩)) (bone w (.cells #[.slice none 0 0] 25)))
      obtain ⟨A, c, rfl, h1, h2, hs⟩ := h.open_
      have z1 : ¬ (262144 : Int) < (l.length : Int) := by omega
      have z2 : (l.length : Int) < 4 := by omega
      have hB := Blk.new w 25 #[.slice none 0 0]
      have r0 := hB.c1
      have fz := hB.frozen 0
      have r1 := (hB.set_ 0 (.slice none 0 0)).c1
      clear h hs hB
      go_enter Tryz.func14, Tryz.ntmps14
      go_wp2_with fail
      refine bodyPost_ret (v := .tuple #[.agg #[.slice none 0 0], .int .i64 14]) (by simp [results, Tryz.results14, go_sem, r1]) rfl ?_
      exact HF.out
    · by_cases hs : SumOk l
      · exact (open_refG u l w h (by omega) (by omega) hs).mono fun e w' hr => retOpen_good (by omega) (by omega) hs hr
      · exact open_refB u l w h (by omega) (by omega) hs
end Go.Proofs.YtjglmjdfndcmmaaGreat

set_option linter.all false
namespace Go.Proofs.YtjglmjdfndcmmaaGreat
open Go.RowKit
theorem OpenSaid.err {l : List UInt8} {x : List Ev} {k : Int} (h : OpenSaid l x k) (hk : k ≠ 0) : x = [] := by
  rcases h with ⟨_, h, _⟩ | ⟨_, _, h, _⟩ | ⟨_, _, _, h⟩
  · exact h
  · exact h
  · rcases h with ⟨h, _⟩ | ⟨_, h, _⟩
    · exact absurd h hk
    · exact h
theorem OpenSaid.log {l : List UInt8} {x : List Ev} {k : Int} (h : OpenSaid l x k) : logB x = true := by
  rcases h with ⟨_, rfl, _⟩ | ⟨_, _, rfl, _⟩ | ⟨_, _, _, h⟩
  · exact b5_valid
  · exact b5_valid
  · rcases h with ⟨_, h, _⟩ | ⟨_, rfl, _⟩
    · exact h
    · exact b5_valid
theorem OpenSaid.len {l : List UInt8} {x : List Ev} {k : Int} (h : OpenSaid l x k) : x.length ≤ 2000 := (log_parts h.log).1
def RetBlocks (l : List UInt8) (w : World) (e : Ending) (w' : World) : Prop := ∃ (x : List Ev) (k : Int), OpenSaid l x k ∧ e = .returned (.tuple #[.int .i64 (nParts x : Int), .int .i64 k]) ∧ Below w.heap.size w w'
set_option maxHeartbeats 1000000 in
set_option maxRecDepth 100000 in
theorem blocks_any (u : Value) (l : List UInt8) (w : World) (h : SlC (Lt w.heap.size) w u l) : Calls Tryz.prog 11 #[u] w (RetBlocks l w) := by
  have HO := Lib.hid (open_any u l w h)
  obtain ⟨A, c, rfl, _, _, _⟩ := h.open_
  clear h
  go_enter Tryz.func11, Tryz.ntmps11
  go_wp2_with fail
  (with_reducible refine HO.out.mono ?_)
  rintro e w1 ⟨ev, x, k, rfl, hx, hsaid, hb1⟩
  have hl := hsaid.len
  have HSD := Lib.hid hsaid
  obtain ⟨A1, c1, rfl, _, _, _⟩ := hx.open_
  have hb2 := bone w1 (.cells #[.slice A1 x.length c1] 25)
  have g0 := (Blk.new w1 25 #[.slice A1 x.length c1]).c1
  have HB := Lib.hid (hb1.trans (hb2.mono hb1.size))
  clear hx hsaid hb1 hb2 HO
  by_cases hk : k = 0
  · subst hk
    have hw1 : IntKind.i64.wrap ((x.length : Int) + 100) = (x.length : Int) + 100 := i64wrap (by omega)
    have hw2 : IntKind.i64.wrap ((x.length : Int) + 100 - 1) = (x.length : Int) + 100 - 1 := i64wrap (by omega)
    have hw3 : IntKind.i64.wrap (((x.length : Int) + 100 - 1) / 100) = ((x.length : Int) + 100 - 1) / 100 := i64wrap (by omega)
    go_wp2_with fail
    go_ret2
    refine ⟨x, 0, HSD.out, ?_, HB.out⟩
    show Ending.returned (.tuple #[.int .i64 (((x.length : Int) + 100 - 1) / 100), .int .i64 0]) = _
    rw [show ((x.length : Int) + 100 - 1) / 100 = (nParts x : Int) by unfold nParts; omega]
  · have z1 : (k != 0) = true := by simp [hk]
    have hx0 := HSD.out.err hk
    subst hx0
    clear hk
    go_wp2_with fail
    go_ret2
    exact ⟨[], k, HSD.out, rfl, HB.out⟩
def BlkSaid (x : List Ev) (k n : Int) (y : List Ev) (r : Int) : Prop := (k ≠ 0 ∧ y = [] ∧ r = k) ∨ (k = 0 ∧ (n < 0 ∨ (nParts x : Int) ≤ n) ∧ y = [] ∧ r = 2) ∨ (k = 0 ∧ ∃ m : Nat, n = (m : Int) ∧ m < nParts x ∧ y = part x m ∧ r = 0)
theorem BlkSaid.unique {x y y' : List Ev} {k n r r' : Int} (h : BlkSaid x k n y r) (h' : BlkSaid x k n y' r') : y' = y ∧ r' = r := by
  rcases h with ⟨h1, rfl, rfl⟩ | ⟨h1, h2, rfl, rfl⟩ | ⟨h1, m, rfl, h2, rfl, rfl⟩ <;> rcases h' with ⟨g1, rfl, rfl⟩ | ⟨g1, g2, rfl, rfl⟩ | ⟨g1, m', g0, g2, rfl, rfl⟩ <;> first | exact ⟨rfl, rfl⟩ | omega | skip
  obtain rfl : m' = m := by omega
  exact ⟨rfl, rfl⟩
def RetBlockAt (l : List UInt8) (n : Int) (w : World) (e : Ending) (w' : World) : Prop := ∃ (x : List Ev) (k : Int) (ev : Value) (y : List Ev) (r : Int), OpenSaid l x k ∧ BlkSaid x k n y r ∧ e = .returned (.tuple #[.agg #[ev], .int .i64 r]) ∧ SlEv (fun b => w.heap.size ≤ b ∧ b < w'.heap.size) w' ev y ∧ Below w.heap.size w w'
theorem partSl_any {D : Nat → Prop} {w : World} {A : Option Addr} {c : Nat} {x : List Ev} (h : SlEv D w (.slice A x.length c) x) (hc : x.length ≤ c) (hm : c ≤ 9223372036854775807) {m : Nat} (hmx : m < nParts x) : ∃ b o, A = some ⟨b, o, none⟩ ∧ SlEv D w (.slice (some ⟨b, o + m * 100 * 6, none⟩) (min 100 (x.length - 100 * m)) (c - m * 100)) (part x m) := by
  obtain ⟨b, o, _, _, rfl, -⟩ := SlEv.at_ h (k := 0) (by unfold nParts at hmx; omega)
  refine ⟨b, o, rfl, ?_⟩
  have := part_sl' h hmx rfl (c - 100 * m) (by unfold nParts at hmx; omega) (by unfold maxLen; omega)
  rw [show m * 100 * 6 = 100 * m * 6 by omega, show c - m * 100 = c - 100 * m by omega]
  exact this
set_option maxHeartbeats 1000000 in
set_option maxRecDepth 100000 in
theorem blockAt_any (u : Value) (l : List UInt8) (n : Int) (w : World) (h : SlC (Lt w.heap.size) w u l) : Calls Tryz.prog 12 #[u, .int .i64 n] w (RetBlockAt l n w) := by
  have hb0 := bone w (.cells #[.slice none 0 0] 25)
  have hP := Blk.new w 25 #[.slice none 0 0]
  have HO := Lib.hid (open_any u l _ (h.now hb0))
  obtain ⟨A, c, rfl, _, _, _⟩ := h.open_
  clear h
  go_enter Tryz.func12, Tryz.ntmps12
  go_wp2_with fail
  (with_reducible refine HO.out.mono ?_)
  rintro e w1 ⟨ev, x, k, rfl, hx, hsaid, hb1⟩
  have hl := hsaid.len
  have HSD := Lib.hid hsaid
  have hx : SlEv (fun b => w.heap.size < b ∧ b < w1.heap.size) w1 ev x := Sl.keep hx REv.kept (fun b hb => ⟨by have h1 := hb.1; rw [World.size_alloc] at h1; omega, hb.2⟩) (Same.refl _ _)
  obtain ⟨A1, c1, rfl, hc1, hc2, hx⟩ := hx.open_
  have hb2 := bone w1 (.cells #[.slice A1 x.length c1] 25)
  have hB1 := hb0.trans (hb1.mono hb0.size)
  have HB := Lib.hid (hB1.trans (hb2.mono hB1.size))
  have hP1 := (hP.now hb1).now hb2
  have g0 := (Blk.new w1 25 #[.slice A1 x.length c1]).c1
  have r0 := hP1.c1
  have fz := hP1.frozen 0
  have HX : Hid (SlEv (fun b => w.heap.size < b ∧ b < (w1.alloc (.cells #[.slice A1 x.length c1] 25)).heap.size) (w1.alloc (.cells #[.slice A1 x.length c1] 25)) (.slice A1 x.length c1) x) := Lib.hid (Sl.keep hx REv.kept (fun b hb => ⟨hb.1, Nat.lt_of_lt_of_le hb.2 hb2.size⟩) (fun b hb => hb2.block b hb.2))
  go_upto_region 2 with fail
  obtain ⟨w2, hw2⟩ : ∃ w2, w1.alloc (.cells #[.slice A1 x.length c1] 25) = w2 := ⟨_, rfl⟩
  rw [hw2] at HB hP1 g0 r0 fz HX ⊢
  clear hw2 hx hsaid hb1 hb2 HO hB1 hP hb0
  by_cases hk : k = 0
  · subst hk
    by_cases hn : n < 0 ∨ (nParts x : Int) ≤ n
    · have r1 := (hP1.set_ 0 (.slice none 0 0)).c1
      have HF : Hid (RetBlockAt l n w (.returned (.tuple #[.agg #[.slice none 0 0], .int .i64 2])) (w2.setCell ⟨w.heap.size, 0, none⟩ (.slice none 0 0))) :=
        Lib.hid ⟨x, 0, .slice none 0 0, [], 2, HSD.out, .inr (.inl ⟨rfl, hn, rfl, rfl⟩), rfl, Sl.none_, HB.out.setCell (p := ⟨w.heap.size, 0, none⟩) (Nat.le_refl _) _⟩
      have hw1 : IntKind.i64.wrap ((x.length : Int) + 100) = (x.length : Int) + 100 := i64wrap (by omega)
      have hw2 : IntKind.i64.wrap ((x.length : Int) + 100 - 1) = (x.length : Int) + 100 - 1 := i64wrap (by omega)
      have hw3 : IntKind.i64.wrap (((x.length : Int) + 100 - 1) / 100) = ((x.length : Int) + 100 - 1) / 100 := i64wrap (by omega)
      have hd : ((x.length : Int) + 100 - 1) / 100 = (nParts x : Int) := by unfold nParts; omega
      clear hP1
      by_cases hn0 : n < 0
      · clear hn
        go_wp2_with fail
        refine bodyPost_ret (v := .tuple #[.agg #[.slice none 0 0], .int .i64 2]) (by simp [results, Tryz.results12, go_sem, r1]) rfl ?_
        exact HF.out
      · have hn1 : ((x.length : Int) + 100 - 1) / 100 ≤ n := by rw [hd]; omega
        clear hn hd
        go_wp2_with fail
        refine bodyPost_ret (v := .tuple #[.agg #[.slice none 0 0], .int .i64 2]) (by simp [results, Tryz.results12, go_sem, r1]) rfl ?_
        exact HF.out
    · obtain ⟨m, rfl⟩ : ∃ m : Nat, n = (m : Int) := ⟨n.toNat, by omega⟩
      have hmx : m < nParts x := by omega
      obtain ⟨b, o, rfl, hpt⟩ := partSl_any HX.out hc1 hc2 hmx
      have hm20 : 100 * m < x.length := by unfold nParts at hmx; omega
      have r1 := (hP1.set_ 0 (.slice (some ⟨b, o + m * 100 * 6, none⟩) (min 100 (x.length - 100 * m)) (c1 - m * 100))).c1
      have HF : Hid (RetBlockAt l (m : Int) w (.returned (.tuple #[.agg #[.slice (some ⟨b, o + m * 100 * 6, none⟩) (min 100 (x.length - 100 * m)) (c1 - m * 100)], .int .i64 0])) (w2.setCell ⟨w.heap.size, 0, none⟩ (.slice (some ⟨b, o + m * 100 * 6, none⟩) (min 100 (x.length - 100 * m)) (c1 - m * 100)))) :=
        Lib.hid ⟨x, 0, _, part x m, 0, HSD.out, .inr (.inr ⟨rfl, m, rfl, hmx, rfl, rfl⟩), rfl, Sl.keep hpt REv.kept (fun b hb => ⟨Nat.le_of_lt hb.1, by show b < (World.setCell _ _ _).heap.size; rw [World.size_setCell]; exact hb.2⟩) (fun b hb => Below.heap_setCell _ _ _ b (Nat.ne_of_gt hb.1)), HB.out.setCell (p := ⟨w.heap.size, 0, none⟩) (Nat.le_refl _) _⟩
      have hw1 : IntKind.i64.wrap ((x.length : Int) + 100) = (x.length : Int) + 100 := i64wrap (by omega)
      have hw2 : IntKind.i64.wrap ((x.length : Int) + 100 - 1) = (x.length : Int) + 100 - 1 := i64wrap (by omega)
      have hw3 : IntKind.i64.wrap (((x.length : Int) + 100 - 1) / 100) = ((x.length : Int) + 100 - 1) / 100 := i64wrap (by omega)
      have hn1 : ¬ ((x.length : Int) + 100 - 1) / 100 ≤ (m : Int) := by unfold nParts at hmx; omega
      have hw4 : IntKind.i64.wrap ((m : Int) * 100) = (m : Int) * 100 := i64wrap (by omega)
      have hw5 : IntKind.i64.wrap ((m : Int) + 1) = (m : Int) + 1 := i64wrap (by omega)
      have hw6 : IntKind.i64.wrap (((m : Int) + 1) * 100) = ((m : Int) + 1) * 100 := i64wrap (by omega)
      have z1 : (0 : Int) ≤ (m : Int) * 100 := by omega
      have m1 : (m : Int) * 100 ≤ min (((m : Int) + 1) * 100) (x.length : Int) := by omega
      have m2 : min (((m : Int) + 1) * 100) (x.length : Int) ≤ (c1 : Int) := by omega
      have m3 : (0 : Int) ≤ min (((m : Int) + 1) * 100) (x.length : Int) := by omega
      have hme : (min (((m : Int) + 1) * 100) (x.length : Int)).toNat - m * 100 = min 100 (x.length - 100 * m) := by omega
      rw [← hme] at HF r1
      clear hP1 hn hpt hme
      go_wp2_with fail
      refine bodyPost_ret (v := .tuple #[.agg #[.slice (some ⟨b, o + m * 100 * 6, none⟩) ((min (((m : Int) + 1) * 100) (x.length : Int)).toNat - m * 100) (c1 - m * 100)], .int .i64 0]) (by simp [results, Tryz.results12, go_sem, r1]) rfl ?_
      exact HF.out
  · have z1 : (k != 0) = true := by simp [hk]
    have hx0 := HSD.out.err hk
    subst hx0
    have r1 := (hP1.set_ 0 (.slice none 0 0)).c1
    have HF : Hid (RetBlockAt l n w (.returned (.tuple #[.agg #[.slice none 0 0], .int .i64 k])) (w2.setCell ⟨w.heap.size, 0, none⟩ (.slice none 0 0))) :=
      Lib.hid ⟨[], k, .slice none 0 0, [], k, HSD.out, .inl ⟨hk, rfl, rfl⟩, rfl, Sl.none_, HB.out.setCell (p := ⟨w.heap.size, 0, none⟩) (Nat.le_refl _) _⟩
    clear hP1 hk
    go_wp2_with fail
    refine bodyPost_ret (v := .tuple #[.agg #[.slice none 0 0], .int .i64 k]) (by simp [results, Tryz.results12, go_sem, r1]) rfl ?_
    exact HF.out
end Go.Proofs.YtjglmjdfndcmmaaGreat

set_option linter.all false
namespace Go.Proofs.YtjglmjdfndcmmaaGreat
open Go.RowKit Go.Maps Go.WideMaps Go.Sort Go.Shelf
def SetB (w : World) (b n : Nat) (l : List Bs) : Prop :=
  ∃ D : DataW Unit, w.ownsMap Tryz.prog 9 (plainElem Tryz.prog 4) b n D ∧ IsMap D ∧ ∀ s : Bs, has D (.string s) = decide (s ∈ l)
theorem SetB.made (w : World) : SetB (w.alloc (.map #[] 0)) w.heap.size 0 [] :=
  ⟨.map [], World.ownsMap_made w _ _ _, isMap_empty, fun s => by simp; rfl⟩
theorem SetB.now {w w' : World} {b n : Nat} {l : List Bs} (h : SetB w b n l) (hb : Below w.heap.size w w') : SetB w' b n l := by
  obtain ⟨D, h1, h2, h3⟩ := h
  exact ⟨D, h1.kept (grown_of_below hb none) (by simp), h2, h3⟩
theorem SetB.lt {w : World} {b n : Nat} {l : List Bs} (h : SetB w b n l) : b < w.heap.size := by
  obtain ⟨D, h1, _⟩ := h
  exact h1.lt
theorem SetB.put {w : World} {b n : Nat} {l : List Bs} (h : SetB w b n l) {s : ByteArray} (hs : s.size ≤ maxLen) (hn : n < maxLen) :
    ∃ w', (Instr.mapUpdate 68 (.map (some b)) (.string s) (.bool true)).run Tryz.prog w = .ok () w' ∧ SetB w' b (n + 1) (l ++ [s.data.toList]) ∧ w.grownBy w' (some b) := by
  obtain ⟨D, h1, h2, h3⟩ := h
  obtain ⟨w', r0, r1, r2⟩ := h1.update (string_keyed Tryz.underlying9) Tryz.underlying68 hn (keyOf_string_mk Tryz.underlying9 hs) (plainElem_bool Tryz.underlying4 true)
  refine ⟨w', r0, ⟨_, r1, h2.put _ _, fun t => ?_⟩, r2⟩
  by_cases e : t = s.data.toList
  · subst e
    rw [has_put_same h2 (by simp [WideAt.IsKeyLit])]
    simp
  · rw [has_put_other (by simpa using e), h3]
    simp [e]
theorem SetB.keys {w : World} {b n : Nat} {ks : List Bs} (h : SetB w b n ks) :
    ∃ D : DataW Unit, w.ownsMap Tryz.prog 9 (plainElem Tryz.prog 4) b n D ∧ Maps.size D ≤ n ∧ ∀ ss : List Bs, ss.Perm (strKeys D) → ss.mergeSort (fun x y => decide (x ≤ y)) = setB ks := by
  obtain ⟨D, h1, h2, h3⟩ := h
  refine ⟨D, h1, h1.size_le, fun ss hss => ?_⟩
  obtain ⟨es, hD, hpw, _⟩ := h1.entries (string_keyed Tryz.underlying9)
  obtain ⟨es', hD', hko⟩ := h1.keysOf
  obtain rfl : es = es' := by rw [hD] at hD'; simpa using hD'
  subst hD
  have hp := perm_strKeys (ss := setB ks) hpw (fun p hp => by obtain ⟨v, hv⟩ := hko p hp; obtain ⟨x, _, hx, _⟩ := Maps.keyOf_str Tryz.underlying9 hv; exact ⟨x, hx⟩) (asc_nodup (setB_asc ks)) (fun x => by rw [setB_mem, h3, decide_eq_true_eq])
  exact perm_setB (hss.trans hp.symm) (asc_nodup (setB_asc ks)) (fun x => setB_mem ks x)
theorem keysB (mb : Option Nat) (W : World) : Calls Tryz.prog 31 #[.map mb] W fun e w' => e = .returned (.func (.func 51) #[] #[.pointer (some ⟨W.heap.size, 0, none⟩)]) ∧ w' = W.alloc (.cells #[.map mb] 68) :=
  (callsIn_wide (n := 5)).1 (AnyZ.keys_in Tryz.keys31 Fence.wide 5 trivial rfl mb W)
set_option maxHeartbeats 1000000 in
theorem sortedB (b n : Nat) (ks : List Bs) (w : World) (hM : SetB w b n ks) (hn : n ≤ 1000000) :
    Calls Tryz.prog 30 #[.func (.func 51) #[] #[.pointer (some ⟨w.heap.size, 0, none⟩)]] (w.alloc (.cells #[.map (some b)] 68)) fun e w' =>
      ∃ v : Value, e = .returned v ∧ OwnS w' (w.alloc (.cells #[.map (some b)] 68)).heap.size v (setB ks) ∧ Below (w.alloc (.cells #[.map (some b)] 68)).heap.size (w.alloc (.cells #[.map (some b)] 68)) w' := by
  obtain ⟨D0, hown, hsz, hperm⟩ := hM.keys
  have hbl := hown.lt
  have hseq : SeqGives Fence.wide 2 Tryz.prog 51 #[.pointer (some ⟨w.heap.size, 0, none⟩)] encStr (fun ss => ss.Perm (strKeys D0)) (Maps.size D0) (w.alloc (.cells #[.map (some b)] 68)) :=
    AnyZ.keys_gives (ρ := Tryz.keys31_ren) { Tryz.keys31 with } Fence.wide _ trivial rfl (by omega) w.heap.size b n D0 _ (by simp) (by simp) (by
      obtain ⟨es, clock, hb, Ft, hs, hD⟩ := hown
      exact ⟨es, clock, (Below.heap_alloc _ _ b hbl).trans hb, Ft, hs, hD⟩)
  refine ((callsIn_wide (n := 5)).1 (AnyZ.sorted_in Tryz.sorted30 Fence.wide 5 trivial trivial trivial trivial rfl (by omega) (sortsN _) (enters_of Tryz.func50 (by kernel_rfl) rfl) 51 #[.pointer (some ⟨w.heap.size, 0, none⟩)] trivial (enters_of Tryz.func51 (by kernel_rfl) rfl) _ _ (by unfold maxLen; omega) (by omega) _ hseq)).mono ?_
  rintro e w' ⟨v, ss, rfl, hS, hrow, _, hb⟩
  refine ⟨v, rfl, ?_, hb⟩
  have h1 := hperm ss hS
  have h2 : (ss.mergeSort (fun x y => decide (x ≤ y))).length = ss.length := (List.mergeSort_perm ss _).length_eq
  unfold OwnS
  rw [← h1, h2]
  exact hrow
end Go.Proofs.YtjglmjdfndcmmaaGreat

set_option linter.all false
namespace Go.Proofs.YtjglmjdfndcmmaaGreat
open Go.RowKit
def actsOf (y : List Ev) : List Bs := y.map fun e => e.act.data.toList
theorem blk_ok {l : List UInt8} {x y : List Ev} {k n r : Int} (h : OpenSaid l x k) (hb : BlkSaid x k n y r) : y.length ≤ 100 ∧ (∀ e ∈ y, EvOk e) ∧ y.Pairwise (fun a b => a.time ≤ b.time) ∧ (r = 0 → 0 < y.length) := by
  rcases hb with ⟨h1, rfl, rfl⟩ | ⟨h1, h2, rfl, rfl⟩ | ⟨h1, m, rfl, h2, rfl, rfl⟩
  · exact ⟨by simp, by simp, by simp, fun e => absurd e h1⟩
  · exact ⟨by simp, by simp, by simp, fun e => absurd e (by decide)⟩
  · refine ⟨part_len x m, fun e he => (log_parts h.log).2 e (part_mem he), (log_time h.log).sublist ((List.take_sublist _ _).trans (List.drop_sublist _ _)), fun _ => ?_⟩
    unfold nParts at h2
    rw [part_count]
    omega
def StatSaid (y : List Ev) (r : Int) (w' : World) (base : Nat) (av : Value) (a c : Int) : Prop := (r ≠ 0 ∧ a = 0 ∧ c = 0 ∧ av = .slice none 0 0) ∨ (r = 0 ∧ OwnS w' base av (setB (actsOf y)) ∧ ∃ e0 e1, y[0]? = some e0 ∧ y[y.length - 1]? = some e1 ∧ a = e0.time ∧ c = e1.time + 1)
def RetStats (l : List UInt8) (n : Int) (w : World) (e : Ending) (w' : World) : Prop := ∃ (x : List Ev) (k : Int) (y : List Ev) (r : Int) (av : Value) (a c : Int), OpenSaid l x k ∧ BlkSaid x k n y r ∧ e = .returned (.tuple #[.agg #[.int .i64 a, .int .i64 c], av, .int .i64 r]) ∧ StatSaid y r w' w.heap.size av a c ∧ Below w.heap.size w w'
set_option maxHeartbeats 2000000 in
set_option maxRecDepth 100000 in
theorem stats_any (u : Value) (l : List UInt8) (n : Int) (w : World) (h : SlC (Lt w.heap.size) w u l) : Calls Tryz.prog 13 #[u, .int .i64 n] w (RetStats l n w) := by
  have hb0 := bone w (.cells #[.int .i64 0, .int .i64 0] 41)
  have hP := Blk.new w 41 #[.int .i64 0, .int .i64 0]
  have HO := Lib.hid (blockAt_any u l n _ (h.now hb0))
  obtain ⟨A, c, rfl, _, _, _⟩ := h.open_
  clear h
  have hmm := @run_makeMap Tryz.prog
  go_enter Tryz.func13, Tryz.ntmps13
  go_wp2_with fail
  (with_reducible refine HO.out.mono ?_)
  rintro e w1 ⟨x, k, ev, y, r, hsaid, hblk, rfl, hy, hb1⟩
  have hy := hy.fresh
  obtain ⟨hy100, hok, hmono, hpos⟩ := blk_ok hsaid hblk
  have HSD := Lib.hid (And.intro hsaid hblk)
  obtain ⟨A1, c1, rfl, hc1, hc2, hy⟩ := hy.open_
  have hb2 := bone w1 (.cells #[.slice A1 y.length c1] 25)
  have hB1 := hb0.trans (hb1.mono hb0.size)
  have HB := Lib.hid (hB1.trans (hb2.mono hB1.size))
  have hP1 := (hP.now hb1).now hb2
  have hG1 := Blk.new w1 25 #[.slice A1 y.length c1]
  have hPG := (hP.now hb1).lt
  have HY := Lib.hid (hy.now hb2)
  go_upto_region 2 with fail
  obtain ⟨w2, hw2⟩ : ∃ w2, w1.alloc (.cells #[.slice A1 y.length c1] 25) = w2 := ⟨_, rfl⟩
  obtain ⟨G, hGG⟩ : ∃ G, w1.heap.size = G := ⟨_, rfl⟩
  rw [hw2] at HB hP1 hG1 HY ⊢
  rw [hGG] at hG1 hPG ⊢
  clear hw2 hGG hy hsaid hblk hb1 hb2 HO hB1 hP hb0
  have hPl := hP1.lt
  have hGl := hG1.lt
  by_cases hr : r = 0
  · subst hr
    have hlen := hpos rfl
    have HP1 := Lib.hid hP1
    have HG1 := Lib.hid hG1
    have HOK := Lib.hid hok
    have hM0 := SetB.made w2
    have hb3 := bone w2 (.map #[] 0)
    have hc0 := (hG1.now hb3).c1
    clear hpos hP1 hG1 hmono hok
    go_upto_region 5 with fail
    obtain ⟨w3, hw3⟩ : ∃ w3, w2.alloc (.map #[] 0) = w3 := ⟨_, rfl⟩
    obtain ⟨M, hMM⟩ : ∃ M, w2.heap.size = M := ⟨_, rfl⟩
    rw [hw3] at hM0 hb3 hc0 ⊢
    rw [hMM] at hM0 ⊢
    have hMge : w2.heap.size ≤ M := by omega
    have HB3 := Lib.hid hb3
    have HM0 := Lib.hid hM0
    clear hw3 hM0 hmm hb3
    go_wp2_with fail
    go_loopw [26] (fun iv wr => ∃ i : Nat, iv = .int .i64 (i : Int) ∧ i ≤ y.length ∧ Hid (SetB wr M i (actsOf (y.take i))) ∧ Hid (Below w2.heap.size w2 wr)) (fun iv _ => y.length - (intOf iv).toNat)
    case atStart => exact ⟨0, rfl, Nat.zero_le _, HM0, HB3⟩
    case round =>
      obtain ⟨i, rfl, hi, HM, HBR⟩ := hrel
      by_cases hlt : i < y.length
      · obtain ⟨b, o, e, dv, rfl, hD, hx, hff, hdv, f0, f1, f2, f3, f4, f5⟩ := SlEv.at_ (HY.out.now HBR.out) hlt
        obtain ⟨Ad, cd, rfl, _, _, _⟩ := hdv.open_
        have hb4 := bone wr (.cells #[.string e.cas, .string e.act, .string e.res, .int .i64 e.life, .int .i64 e.time, .slice Ad e.data.length cd] 57)
        have hE4 := Blk.new wr 57 #[.string e.cas, .string e.act, .string e.res, .int .i64 e.life, .int .i64 e.time, .slice Ad e.data.length cd]
        have hM4 := HM.out.now hb4
        obtain ⟨w5, u5, hM5, hg5⟩ := SetB.put hM4 hff.act (by unfold maxLen; omega)
        have hT : actsOf (y.take (i + 1)) = actsOf (y.take i) ++ [e.act.data.toList] := by unfold actsOf; rw [take_next hx, List.map_append]; rfl
        have HN : Hid (SetB w5 M (i + 1) (actsOf (y.take (i + 1)))) := Lib.hid (by rw [hT]; exact hM5)
        have hMl := HM.out.lt
        have HBN := Lib.hid (HBR.out.trans ((hb4.mono HBR.out.size).trans (below_of_grown hg5 (by have := HBR.out.size; simp; omega) (fun g hg => by injection hg with hg; omega))))
        clear hx hff hdv hM4 hM5 hg5 hT
        obtain ⟨p0, p1, p2, p3, p4, p5⟩ := hE4.c6
        go_upto_region 8 with fail
        obtain ⟨w4, hw4⟩ : ∃ w4, wr.alloc (.cells #[.string e.cas, .string e.act, .string e.res, .int .i64 e.life, .int .i64 e.time, .slice Ad e.data.length cd] 57) = w4 := ⟨_, rfl⟩
        rw [hw4] at u5 p1 ⊢
        clear hw4 p0 p2 p3 p4 p5 f0 f1 f2 f3 f4 f5 hE4 hb4
        go_wp2_with fail
        go_roundw
        case rel => exact ⟨i + 1, by go_num, by omega, HN, HBN⟩
        case measure => simp [intOf]; omega
      · obtain rfl : i = y.length := by omega
        rw [List.take_length] at HM
        have z1 : ¬ (y.length : Int) < (y.length : Int) := by omega
        obtain ⟨p, hp⟩ : ∃ p, y.length = p + 1 := ⟨y.length - 1, by omega⟩
        obtain ⟨b, o, e0, _, rfl, hD, hx0, _, _, _, _, _, _, f4, _⟩ := SlEv.at_ HY.out (k := 0) (by omega)
        obtain ⟨b', o', e1, _, hA', _, hx1, _, _, _, _, _, _, k4, _⟩ := SlEv.at_ HY.out (k := p) (by omega)
        injection hA' with hA'
        injection hA' with e1' e2' _
        subst e1' e2'
        rw [Nat.zero_mul, Nat.add_zero] at f4
        have HX := Lib.hid (And.intro hx0 hx1)
        have ht0 := (HOK.out e0 (List.mem_of_getElem? hx0)).time
        have ht1 := (HOK.out e1 (List.mem_of_getElem? hx1)).time
        have hbP : b ≠ w.heap.size := by
          rintro rfl
          have := (HP1.out.cell _).symm.trans f4
          rw [Array.getElem?_eq_none (by simp)] at this
          cases this
        have HSS : Hid (∀ W, Chg (One w.heap.size) w2 W → W.cell? ⟨G, 0, none⟩ = some (.slice (some ⟨b, o, none⟩) (p + 1) c1) ∧ W.cell? ⟨b, o + 4, none⟩ = some (.int .i64 e0.time) ∧ W.cell? ⟨b, o + p * 6 + 4, none⟩ = some (.int .i64 e1.time)) :=
          Lib.hid fun W hW => by
            have g1 := (HG1.out.chg hW (fun e => by unfold One at e; omega)).c1
            rw [hp] at g1
            have hcell : ∀ i v, w2.cell? ⟨b, i, none⟩ = some v → W.cell? ⟨b, i, none⟩ = some v := fun i v h => by
              rw [← h]; exact World.cell?_of_block (hW.block b hD hbP)
            exact ⟨g1, hcell _ _ f4, hcell _ _ k4⟩
        have hcd : Chg (One w.heap.size) w2 wr.drew := (Chg.of_below HBR.out).drew
        have HKM := Lib.hid (fun W => keysB (some M) W)
        have hsb := sortedB M y.length (actsOf y) wr.drew (HM.out.now ((Below.refl _ _).drew)) (by omega)
        have HSB : Hid (Calls Tryz.prog 30 #[.func (.func 51) #[] #[.pointer (some ⟨wr.heap.size, 0, none⟩)]] (wr.alloc (.cells #[.map (some M)] 68)).drew fun e w' => ∃ v : Value, e = .returned v ∧ OwnS w' (wr.alloc (.cells #[.map (some M)] 68)).heap.size v (setB (actsOf y)) ∧ Below (wr.alloc (.cells #[.map (some M)] 68)).heap.size (wr.alloc (.cells #[.map (some M)] 68)).drew w') := Lib.hid hsb
        have HPr := Lib.hid (HP1.out.now HBR.out)
        have HP6 : Hid (Blk (wr.alloc (.cells #[.map (some M)] 68)).drew w.heap.size 41 #[.int .i64 0, .int .i64 0]) := Lib.hid (HPr.out.now ((bone wr (.cells #[.map (some M)] 68)).drew))
        have hcr : Chg (One w.heap.size) w2 wr := Chg.of_below HBR.out
        clear hsb
        have d1 : IntKind.i64.wrap (p : Int) = (p : Int) := i64wrap (by omega)
        have d2 : (0 : Int) ≤ (p : Int) := by omega
        have d3 : (p : Int) < (p : Int) + 1 := by omega
        have d4 : (0 : Int) < (p : Int) + 1 := by omega
        have d5 : IntKind.i64.wrap (e1.time + 1) = e1.time + 1 := i64wrap (by omega)
        obtain ⟨a0, a1, a2⟩ := HSS.out _ hcd
        have HP := Lib.hid hp
        rw [hp]
        clear hx0 hx1 ht0 ht1 f4 k4 hp hlen hy100 hc1 hi
        go_upto_region 10 with fail
        go_region_held3 (fun W => W.cell? ⟨G, 0, none⟩ = some (.slice (some ⟨b, o, none⟩) (p + 1) c1) ∧ W.cell? ⟨b, o + 4, none⟩ = some (.int .i64 e0.time) ∧ W.cell? ⟨b, o + p * 6 + 4, none⟩ = some (.int .i64 e1.time)) (first | exact HSS.out _ (by assumption) | exact HSS.out _ (z7 _ _))
          (first | (go_at_call 31; (with_reducible refine (HKM.out _).mono ?_); rintro _ w6 ⟨rfl, rfl⟩; have hc6 := (hcr.alloc (.cells #[.map (some M)] 68)).drew) | (go_at_call 30; (with_reducible refine HSB.out.mono ?_); rintro _ w7 ⟨v7, rfl, hO7, hb7⟩; have hc7 : Chg (One w.heap.size) w2 w7 := hc6.trans (Chg.of_below hb7); have hP7 := HP6.out.now hb7; obtain ⟨r0, r1⟩ := hP7.c2; have fz0 := hP7.frozen 0; have fz1 := hP7.frozen 1; have z7 := fun a c => (hc7.set (p := ⟨w.heap.size, 0, none⟩) (.inr rfl) a).set (p := ⟨w.heap.size, 1, none⟩) (.inr rfl) c))
        all_goals
          have hBW : Below w.heap.size w ((w7.setCell ⟨w.heap.size, 0, none⟩ (.int .i64 e0.time)).setCell ⟨w.heap.size, 1, none⟩ (.int .i64 (e1.time + 1))) :=
            HB.out.trans ((z7 _ _).below (by have := HB.out.size; omega) (fun i hi e => by unfold One at e; omega))
          have hO9 : OwnS ((w7.setCell ⟨w.heap.size, 0, none⟩ (.int .i64 e0.time)).setCell ⟨w.heap.size, 1, none⟩ (.int .i64 (e1.time + 1))) w.heap.size v7 (setB (actsOf y)) := by
            have h1 : OwnS w7 w.heap.size v7 (setB (actsOf y)) := ownsRow_base_a hO7 (by have := HB.out.size; have := hcr.size; simp; omega)
            have h2 := World.ownsRow.lt hO7
            refine own_same h1 (fun g hg => ?_)
            have hgP : g ≠ w.heap.size := by have h3 := (h2 g hg).1; rw [World.size_alloc] at h3; have := hcr.size; omega
            exact (Below.heap_setCell _ _ _ g hgP).trans (Below.heap_setCell _ _ _ g hgP)
          obtain ⟨r2, r3⟩ := ((hP7.set_ 0 (.int .i64 e0.time)).set_ 1 (.int .i64 (e1.time + 1))).c2
          have HF : Hid (RetStats l n w (.returned (.tuple #[.agg #[.int .i64 e0.time, .int .i64 (e1.time + 1)], v7, .int .i64 0])) ((w7.setCell ⟨w.heap.size, 0, none⟩ (.int .i64 e0.time)).setCell ⟨w.heap.size, 1, none⟩ (.int .i64 (e1.time + 1)))) :=
            Lib.hid ⟨x, k, y, 0, v7, _, _, HSD.out.1, HSD.out.2, rfl, .inr ⟨rfl, hO9, e0, e1, HX.out.1, by rw [HP.out]; exact HX.out.2, rfl, rfl⟩, hBW⟩
          clear hBW hO9 hP7 z7 hO7 hb7 hc7
          go_wp2_with fail
          refine bodyPost_ret (v := .tuple #[.agg #[.int .i64 e0.time, .int .i64 (e1.time + 1)], v7, .int .i64 0]) (by simp [results, Tryz.results13, go_sem, r2, r3]) rfl ?_
          exact HF.out
  · have z1 : (r != 0) = true := by simp [hr]
    obtain ⟨r0, r1⟩ := hP1.c2
    have fz0 := hP1.frozen 0
    have fz1 := hP1.frozen 1
    obtain ⟨r2, r3⟩ := ((hP1.set_ 0 (.int .i64 0)).set_ 1 (.int .i64 0)).c2
    have HF : Hid (RetStats l n w (.returned (.tuple #[.agg #[.int .i64 0, .int .i64 0], .slice none 0 0, .int .i64 r])) ((w2.setCell ⟨w.heap.size, 0, none⟩ (.int .i64 0)).setCell ⟨w.heap.size, 1, none⟩ (.int .i64 0))) :=
      Lib.hid ⟨x, k, y, r, .slice none 0 0, 0, 0, HSD.out.1, HSD.out.2, rfl, .inl ⟨hr, rfl, rfl, rfl⟩, (HB.out.setCell (p := ⟨w.heap.size, 0, none⟩) (Nat.le_refl _) _).setCell (p := ⟨w.heap.size, 1, none⟩) (Nat.le_refl _) _⟩
    clear hP1 hG1 hr
    go_wp2_with fail
    refine bodyPost_ret (v := .tuple #[.agg #[.int .i64 0, .int .i64 0], .slice none 0 0, .int .i64 r]) (by simp [results, Tryz.results13, go_sem, r2, r3]) rfl ?_
    exact HF.out
end Go.Proofs.YtjglmjdfndcmmaaGreat

set_option linter.all false
namespace Go.Proofs.YtjglmjdfndcmmaaGreat
open Go.RowKit
structure ActInv (y : List Ev) (i : Nat) (out : List Bs) : Prop where
  asc : Asc out
  mem : ∀ x, x ∈ out ↔ x ∈ (actsOf y).take i
  len : out.length ≤ i
theorem ActInv.start (y : List Ev) : ActInv y 0 [] := ⟨by simp [Asc], by simp, by simp⟩
theorem ActInv.there {y : List Ev} {i : Nat} {out : List Bs} {s : Bs} (h : ActInv y i out) (hs : (actsOf y)[i]? = some s) (hm : s ∈ out) : ActInv y (i + 1) out := by
  refine ⟨h.asc, fun x => ?_, by have := h.len; omega⟩
  rw [take_next hs, List.mem_append, List.mem_singleton, ← h.mem x]
  exact ⟨.inl, fun h' => by rcases h' with h' | rfl; exact h'; exact hm⟩
theorem ActInv.new {y : List Ev} {i : Nat} {out r : List Bs} {s : Bs} (h : ActInv y i out) (hs : (actsOf y)[i]? = some s) (hr : InsRes out s r) : ActInv y (i + 1) r := by
  refine ⟨hr.1, fun x => ?_, by have := h.len; have := hr.2.2; omega⟩
  rw [take_next hs, List.mem_append, List.mem_singleton, ← h.mem x]
  exact hr.2.1 x
theorem ActInv.done {y : List Ev} {out : List Bs} (h : ActInv y y.length out) : out = setB (actsOf y) := by
  refine setB_unique h.asc fun x => ?_
  rw [h.mem x, List.take_of_length_le (by unfold actsOf; rw [List.length_map]; exact Nat.le_refl _)]
theorem ActInv.fit {y : List Ev} {i : Nat} {out : List Bs} (h : ActInv y i out) (hf : ∀ e ∈ y, FitEv e) : ∀ x ∈ out, x.length ≤ maxLen := fun x hx => by
  obtain ⟨e, he, rfl⟩ := List.mem_map.1 (List.mem_of_mem_take ((h.mem x).1 hx))
  rw [size_eq]
  exact (hf e he).act
theorem acts_at {y : List Ev} {i : Nat} {e : Ev} (h : y[i]? = some e) : (actsOf y)[i]? = some e.act.data.toList := by
  unfold actsOf; rw [List.getElem?_map, h]; rfl
def RetStatsR (y : List Ev) (w : World) (e : Ending) (w' : World) : Prop := ∃ (av : Value) (e0 e1 : Ev), e = .returned (.tuple #[.agg #[.int .i64 e0.time, .int .i64 (e1.time + 1)], av]) ∧ OwnS w' w.heap.size av (setB (actsOf y)) ∧ y[0]? = some e0 ∧ y[y.length - 1]? = some e1 ∧ Below w.heap.size w w'
set_option maxHeartbeats 2000000 in
set_option maxRecDepth 100000 in
theorem stats_ref (y : List Ev) (v : Value) (w : World) (hs : SlEv (Lt w.heap.size) w v y) (hpos : 0 < y.length) (hl : y.length ≤ 100) (hok : ∀ e ∈ y, EvOk e) :
    Calls Tryz.prog 16 #[v] w (RetStatsR y w) := by
  have HFT := Lib.hid (SlEv.fit hs)
  have HOK := Lib.hid hok
  obtain ⟨A, c, rfl, _, _, hs⟩ := hs.open_
  have hb1 := bone w (.cells #[.int .i64 0, .int .i64 0] 41)
  have hP := Blk.new w 41 #[.int .i64 0, .int .i64 0]
  have HS := Lib.hid (SlEv.now hs hb1)
  have HS0 := Lib.hid hs
  clear hs hok
  go_enter Tryz.func16, Tryz.ntmps16
  go_upto_region 1 with fail
  obtain ⟨w1, hw1⟩ : ∃ w1, w.alloc (.cells #[.int .i64 0, .int .i64 0] 41) = w1 := ⟨_, rfl⟩
  rw [hw1] at hb1 hP HS ⊢
  have HP := Lib.hid hP
  have HB1 := Lib.hid hb1
  have hPl := hP.lt
  clear hw1 hP hb1
  go_wp2_with fail
  go_loopw [4, 5] (fun ov iv wr => ∃ (i : Nat) (out : List Bs) (sv : Value), iv = .int .i64 (i : Int) ∧ sv = ov ∧ i ≤ y.length ∧ Hid (ActInv y i out) ∧ Hid (OwnS wr w1.heap.size sv out) ∧ Hid (Below w1.heap.size w1 wr)) (fun _ iv _ => y.length - (intOf iv).toNat)
  case atStart => exact ⟨0, [], .slice none 0 0, rfl, rfl, Nat.zero_le _, Lib.hid (ActInv.start y), Lib.hid (World.ownsRow_nil _ _ _ _), Lib.hid (Below.refl _ _)⟩
  case round =>
    obtain ⟨i, out, sv, rfl, rfl, hi, HI, HO, HBR⟩ := hrel
    obtain ⟨wo, rfl⟩ : ∃ wo, wo = wr := ⟨wr, rfl⟩
    have hszo := HBR.out.size
    by_cases hlt : i < y.length
    · obtain ⟨b, o, e, dv, rfl, hD, hx, hff, hdv, f0, f1, f2, f3, f4, f5⟩ := SlEv.at_ (SlEv.below HS.out HBR.out (Nat.le_refl _)) hlt
      have HX := Lib.hid (acts_at hx)
      have hso := HO.out.slS (HI.out.fit HFT.out)
      have hol : out.length ≤ 1000 := by have := HI.out.len; omega
      have HC := Lib.hid (index_ref _ _ e.act _ hso)
      clear hx f0 f2 f3 f4 f5 hff hdv
      by_cases hm : e.act.data.toList ∈ out
      · have ha := atS_mem (ws := out) (s := e.act) hm
        rw [ha] at HC
        have z1 : decide (((atW out e.act : Nat) : Int) < 0) = false := by simp
        have HN := Lib.hid (HI.out.there HX.out hm)
        generalize atW out e.act = z at *
        clear ha hso hm
        go_wp2_with fail
        (with_reducible refine HC.out.mono ?_)
        rintro x w3 ⟨rfl, rfl⟩
        go_wp2_with fail
        go_roundw
        case rel => exact ⟨i + 1, out, sv, by go_num, rfl, by omega, HN, HO, HBR⟩
        case measure => simp [intOf]; omega
      · have ha := atS_not (ws := out) (s := e.act) hm
        rw [ha] at HC
        have HCI := Lib.hid (insert_new _ out e.act wo hso HI.out.asc hm hol)
        clear ha hso hm
        go_wp2_with fail
        (with_reducible refine HC.out.mono ?_)
        rintro x w3 ⟨rfl, rfl⟩
        go_wp2_with fail
        (with_reducible refine HCI.out.mono ?_)
        rintro x w4 ⟨v4, r, rfl, hr, hir, hb4⟩
        go_wp2_with fail
        go_roundw
        case rel => exact ⟨i + 1, r, _, by go_num, rfl, by omega, Lib.hid (HI.out.new HX.out hir), Lib.hid (ownsRow_base_a hr hszo), Lib.hid (HBR.out.trans (hb4.mono hszo))⟩
        case measure => simp [intOf]; omega
    · obtain rfl : i = y.length := by omega
      have z1 : ¬ (y.length : Int) < (y.length : Int) := by omega
      obtain ⟨p, hp⟩ : ∃ p, y.length = p + 1 := ⟨y.length - 1, by omega⟩
      have hsw : SlEv (Lt w.heap.size) wo (.slice A y.length c) y := SlEv.below (SlEv.below HS0.out HB1.out (Nat.le_refl _)) (HBR.out.mono HB1.out.size) (Nat.le_refl _)
      obtain ⟨b, o, e0, _, rfl, hD0, hx0, _, _, _, _, _, _, f4, _⟩ := SlEv.at_ hsw (k := 0) (by omega)
      obtain ⟨b', o', e1, _, hA', _, hx1, _, _, _, _, _, _, k4, _⟩ := SlEv.at_ hsw (k := p) (by omega)
      injection hA' with hA'
      injection hA' with e1' e2' _
      subst e1' e2'
      rw [Nat.zero_mul, Nat.add_zero] at f4
      have HX := Lib.hid (And.intro hx0 hx1)
      have ht0 := (HOK.out e0 (List.mem_of_getElem? hx0)).time
      have ht1 := (HOK.out e1 (List.mem_of_getElem? hx1)).time
      have hPr := HP.out.now HBR.out
      have hO : OwnS wo w1.heap.size sv (setB (actsOf y)) := by rw [← HI.out.done]; exact HO.out
      have d1 : IntKind.i64.wrap (p : Int) = (p : Int) := i64wrap (by omega)
      have d2 : (0 : Int) ≤ (p : Int) := by omega
      have d3 : (p : Int) < (p : Int) + 1 := by omega
      have d4 : (0 : Int) < (p : Int) + 1 := by omega
      have d5 : IntKind.i64.wrap (e1.time + 1) = e1.time + 1 := i64wrap (by omega)
      have HPP := Lib.hid hp
      have HPR := Lib.hid hPr
      have HOO := Lib.hid hO
      have fz0 := hPr.frozen 0
      have fz1 := hPr.frozen 1
      obtain ⟨q0, q1⟩ := hPr.c2
      rw [hp] at z1 ⊢
      clear hsw hx0 hx1 ht0 ht1 hp hl hi hO hPr HO HI
      go_upto_region 7 with fail
      have hbP : b ≠ w.heap.size := Nat.ne_of_lt hD0
      have HSS : Hid (∀ W, Chg (One w.heap.size) wo W → W.cell? ⟨b, o + 4, none⟩ = some (.int .i64 e0.time) ∧ W.cell? ⟨b, o + p * 6 + 4, none⟩ = some (.int .i64 e1.time)) :=
        Lib.hid fun W hW => by
          have hcell : ∀ i v, wo.cell? ⟨b, i, none⟩ = some v → W.cell? ⟨b, i, none⟩ = some v := fun i v h => by
            rw [← h]; exact World.cell?_of_block (hW.block b (Nat.lt_of_lt_of_le (Nat.lt_trans hD0 hPl) hszo) hbP)
          exact ⟨hcell _ _ f4, hcell _ _ k4⟩
      have hcd : Chg (One w.heap.size) wo wo.drew := Chg.refl.drew
      have hPd : Blk wo.drew w.heap.size 41 #[.int .i64 0, .int .i64 0] := HPR.out
      obtain ⟨q2, q3⟩ := hPd.c2
      have gz0 := hPd.frozen 0
      have gz1 := hPd.frozen 1
      have z7 := fun a c => (hcd.set (p := ⟨w.heap.size, 0, none⟩) (.inr rfl) a).set (p := ⟨w.heap.size, 1, none⟩) (.inr rfl) c
      obtain ⟨a1, a2⟩ := HSS.out _ hcd
      obtain ⟨r2, r3⟩ := ((HPR.out.set_ 0 (.int .i64 e0.time)).set_ 1 (.int .i64 (e1.time + 1))).c2
      have HF : Hid (RetStatsR y w (.returned (.tuple #[.agg #[.int .i64 e0.time, .int .i64 (e1.time + 1)], sv])) ((wo.drew.setCell ⟨w.heap.size, 0, none⟩ (.int .i64 e0.time)).setCell ⟨w.heap.size, 1, none⟩ (.int .i64 (e1.time + 1)))) := by
        refine Lib.hid ⟨sv, e0, e1, rfl, ?_, HX.out.1, by rw [HPP.out]; exact HX.out.2, ?_⟩
        · have h2 := World.ownsRow.lt HOO.out
          have h1 : OwnS wo.drew w.heap.size sv (setB (actsOf y)) := own_now (ownsRow_base_a HOO.out HB1.out.size) ((Below.refl _ _).drew)
          refine own_same h1 (fun g hg => ?_)
          have hgP : g ≠ w.heap.size := by have h3 := (h2 g hg).1; omega
          exact (Below.heap_setCell _ _ _ g hgP).trans (Below.heap_setCell _ _ _ g hgP)
        · exact ((HB1.out.trans ((HBR.out.drew).mono HB1.out.size)).setCell (p := ⟨w.heap.size, 0, none⟩) (Nat.le_refl _) _).setCell (p := ⟨w.heap.size, 1, none⟩) (Nat.le_refl _) _
      clear f4 k4 hPd
      go_region_held3 (fun W => W.cell? ⟨b, o + 4, none⟩ = some (.int .i64 e0.time) ∧ W.cell? ⟨b, o + p * 6 + 4, none⟩ = some (.int .i64 e1.time)) (first | exact HSS.out _ (by assumption) | exact HSS.out _ (z7 _ _)) (fail)
      all_goals
        clear z7
        go_wp2_with fail
        refine bodyPost_ret (v := .tuple #[.agg #[.int .i64 e0.time, .int .i64 (e1.time + 1)], sv]) (by simp [results, Tryz.results16, go_sem, r2, r3]) rfl ?_
        exact HF.out
end Go.Proofs.YtjglmjdfndcmmaaGreat

set_option linter.all false
namespace Go.Proofs.YtjglmjdfndcmmaaGreat
open Go.RowKit
theorem eqF_same {P : Program} {d t o : Nat} {xs : Array Value} {f : Go.Field} {l : List Go.Field} {v : Value} {W : World} (hf : (f.name == "_", f.type, f.offset) = (false, t, o)) (hp : (Go.part t xs o).run P W = .ok v W) (he : (Op.equalIn d t v v).run P W = .ok true W) :
    (Op.eqFields d xs xs (f :: l)).run P W = (Op.eqFields d xs xs l).run P W := by
  simp only [Prod.mk.injEq, beq_eq_false_iff_ne] at hf
  obtain ⟨h1, h2, h3⟩ := hf
  simp only [Op.eqFields, h1, h2, h3, ne_eq, not_false_eq_true, if_true]
  simp only [Sem.run_bind, hp, he, Result.andThen_ok]
  simp
theorem part_int {P : Program} {t o : Nat} {xs : Array Value} {v : Value} {W : World} (ht : P.underlying t = some (.int .i64)) (hx : xs[o]? = some v) : (Go.part t xs o).run P W = .ok v W := by
  simp only [Sem.run_bind, Go.part, isAgg, run_underlying ht, Result.andThen_ok, Sem.run_pure, Bool.false_eq_true, if_false, hx]
theorem part_str {P : Program} {t o : Nat} {xs : Array Value} {v : Value} {W : World} (ht : P.underlying t = some .string) (hx : xs[o]? = some v) : (Go.part t xs o).run P W = .ok v W := by
  simp only [Sem.run_bind, Go.part, isAgg, run_underlying ht, Result.andThen_ok, Sem.run_pure, Bool.false_eq_true, if_false, hx]
theorem fieldsFld : ((Program.fieldsOf Tryz.prog 64).toList.map fun f => (f.name == "_", f.type, f.offset)) = [(false, 9, 0), (false, 62, 1)] := by kernel_rfl
theorem fieldsVal : ((Program.fieldsOf Tryz.prog 62).toList.map fun f => (f.name == "_", f.type, f.offset)) = [(false, 3, 0), (false, 3, 1), (false, 9, 2)] := by kernel_rfl
theorem valInfoSize : (Tryz.prog.info? 62).map (fun i => i.size) = some 3 := by kernel_rfl
theorem list2 {α β : Type} {g : α → β} {L : List α} {a b : β} (h : L.map g = [a, b]) : ∃ x y, L = [x, y] ∧ g x = a ∧ g y = b := by
  match L, h with
  | [x, y], h => injection h with h1 h; injection h with h2 _; exact ⟨x, y, rfl, h1, h2⟩
theorem list3 {α β : Type} {g : α → β} {L : List α} {a b c : β} (h : L.map g = [a, b, c]) : ∃ x y z, L = [x, y, z] ∧ g x = a ∧ g y = b ∧ g z = c := by
  match L, h with
  | [x, y, z], h => injection h with h1 h; injection h with h2 h; injection h with h3 _; exact ⟨x, y, z, rfl, h1, h2, h3⟩
theorem valEq (a b : Int) (s : ByteArray) (W : World) (d : Nat) : (Op.equalIn (d + 1 + 1) 62 (.agg #[.int .i64 a, .int .i64 b, .string s]) (.agg #[.int .i64 a, .int .i64 b, .string s])).run Tryz.prog W = .ok true W := by
  rw [run_equalIn_agg (ht := by kernel_rfl) (hp := by kernel_rfl)]
  obtain ⟨x, y, z, hl, h1, h2, h3⟩ := list3 fieldsVal
  rw [hl]
  have hi : Program.underlying Tryz.prog 3 = some (.int .i64) := by kernel_rfl
  have hs : Program.underlying Tryz.prog 9 = some .string := by kernel_rfl
  rw [eqF_same (v := .int .i64 a) h1 (part_int hi rfl) (by rw [run_equalIn_int (h := hi)]; simp), eqF_same (v := .int .i64 b) h2 (part_int hi rfl) (by rw [run_equalIn_int (h := hi)]; simp), eqF_same (v := .string s) h3 (part_str hs rfl) (by rw [run_equalIn_string (h := hs)]; simp)]
  simp [Op.eqFields]
theorem part_val (nm : ByteArray) (a b : Int) (s : ByteArray) (W : World) : (Go.part 62 #[.string nm, .int .i64 a, .int .i64 b, .string s] 1).run Tryz.prog W = .ok (.agg #[.int .i64 a, .int .i64 b, .string s]) W := by
  obtain ⟨i, hi, hs⟩ := Option.map_eq_some_iff.1 valInfoSize
  have ht : Program.underlying Tryz.prog 62 = some (.struct (Program.fieldsOf Tryz.prog 62)) := by kernel_rfl
  simp [Go.part, isAgg, run_underlying ht, sizeOf, typeInfo, hi, hs]
theorem fldNeq (f : Fld) (W : World) : (binOp .neq 64 (.agg #[.string f.nm, .int .i64 f.v.kind, .int .i64 f.v.n, .string f.v.s]) (.agg #[.string f.nm, .int .i64 f.v.kind, .int .i64 f.v.n, .string f.v.s])).run Tryz.prog W = .ok (.bool false) W := by
  rw [run_neq_struct, show (10000 : Nat) = 9996 + 1 + 1 + 1 + 1 from rfl, run_equalIn_agg (ht := by kernel_rfl) (hp := by kernel_rfl)]
  obtain ⟨x, y, hl, h1, h2⟩ := list2 fieldsFld
  rw [hl]
  have hs : Program.underlying Tryz.prog 9 = some .string := by kernel_rfl
  rw [eqF_same (v := .string f.nm) h1 (part_str hs rfl) (by rw [run_equalIn_string (h := hs)]; simp), eqF_same h2 (part_val _ _ _ _ W) (valEq _ _ _ W _)]
  simp [Op.eqFields]
set_option maxHeartbeats 1000000 in
set_option maxRecDepth 100000 in
theorem evSame_ref (e : Ev) (d1 d2 : Value) (w : World) (h1 : SlFl (Lt w.heap.size) w d1 e.data) (h2 : SlFl (Lt w.heap.size) w d2 e.data) :
    Calls Tryz.prog 38 #[.agg #[.string e.cas, .string e.act, .string e.res, .int .i64 e.life, .int .i64 e.time, d1], .agg #[.string e.cas, .string e.act, .string e.res, .int .i64 e.life, .int .i64 e.time, d2]] w fun x w' => x = .returned (.bool true) ∧ Below w.heap.size w w' := by
  obtain ⟨A, c, rfl, _, _, h1⟩ := h1.open_
  obtain ⟨A2, c2, rfl, _, _, h2⟩ := h2.open_
  have HA := Lib.hid h1
  have HB := Lib.hid h2
  have hb1 := bone w (.cells #[.string e.cas, .string e.act, .string e.res, .int .i64 e.life, .int .i64 e.time, .slice A e.data.length c] 57)
  have hb12 := bbox hb1 (.cells #[.string e.cas, .string e.act, .string e.res, .int .i64 e.life, .int .i64 e.time, .slice A2 e.data.length c2] 57)
  have HB12 := Lib.hid hb12
  clear h1 h2
  go_enter Tryz.func38, Tryz.ntmps38
  go_wp2_with fail
  go_loopw [5] (fun iv wr => ∃ k q : Nat, iv = .int .i64 (k : Int) ∧ k ≤ e.data.length ∧ wr = ((w.alloc (.cells #[.string e.cas, .string e.act, .string e.res, .int .i64 e.life, .int .i64 e.time, .slice A e.data.length c] 57)).alloc (.cells #[.string e.cas, .string e.act, .string e.res, .int .i64 e.life, .int .i64 e.time, .slice A2 e.data.length c2] 57)).drewN q) (fun iv _ => e.data.length - (intOf iv).toNat)
  case atStart => exact ⟨0, 0, rfl, Nat.zero_le _, rfl⟩
  case round =>
    obtain ⟨k, q, rfl, hk, hwr⟩ := hrel
    by_cases hlt : k < e.data.length
    · obtain ⟨b, o, f, rfl, hDb, hx, _, f0, f1, f2, f3⟩ := SlFl.at_ HA.out hlt
      obtain ⟨b', o', f', rfl, hDb', hx', _, g0, g1, g2, g3⟩ := SlFl.at_ HB.out hlt
      rw [hx] at hx'
      injection hx' with hx'
      subst hx'
      have p0 := (hb12.cell (p := ⟨b, o + k * 4, none⟩) hDb).trans f0
      have p1 := (hb12.cell (p := ⟨b, o + k * 4 + 1, none⟩) hDb).trans f1
      have p2 := (hb12.cell (p := ⟨b, o + k * 4 + 2, none⟩) hDb).trans f2
      have p3 := (hb12.cell (p := ⟨b, o + k * 4 + 3, none⟩) hDb).trans f3
      have q0 := (hb12.cell (p := ⟨b', o' + k * 4, none⟩) hDb').trans g0
      have q1 := (hb12.cell (p := ⟨b', o' + k * 4 + 1, none⟩) hDb').trans g1
      have q2 := (hb12.cell (p := ⟨b', o' + k * 4 + 2, none⟩) hDb').trans g2
      have q3 := (hb12.cell (p := ⟨b', o' + k * 4 + 3, none⟩) hDb').trans g3
      have hne := fldNeq f
      have i1 : (0 : Int) ≤ (k : Int) := by omega
      have i2 : (k : Int) < (e.data.length : Int) := by omega
      clear hx f0 f1 f2 f3 g0 g1 g2 g3
      go_wp2_with fail
      go_quiet (fail)
      go_wp2_with fail
      go_roundw
      case rel => exact ⟨k + 1, q + nq, by go_num, by omega, by first | rfl | (rw [hwr]; simp) | simp⟩
      case measure => simp [intOf]; omega
    · obtain rfl : k = e.data.length := by omega
      have z1 : ¬ (e.data.length : Int) < (e.data.length : Int) := by omega
      go_wp2_with fail
      go_ret
      exact ⟨rfl, below_drewN HB12.out q⟩
end Go.Proofs.YtjglmjdfndcmmaaGreat

set_option linter.all false
namespace Go.Proofs.YtjglmjdfndcmmaaGreat
open Go.RowKit
set_option maxHeartbeats 1000000 in
set_option maxRecDepth 100000 in
theorem logSame_ref (l : List Ev) (u v : Value) (w : World) (hu : IsLog (Lt w.heap.size) w u l) (hv : IsLog (Lt w.heap.size) w v l) :
    Calls Tryz.prog 18 #[u, v] w fun x w' => x = .returned (.bool true) ∧ Below w.heap.size w w' := by
  obtain ⟨_, rfl, hu⟩ := hu
  obtain ⟨_, rfl, hv⟩ := hv
  obtain ⟨A, c, rfl, _, _, hu⟩ := hu.open_
  obtain ⟨A2, c2, rfl, _, _, hv⟩ := hv.open_
  have HU := Lib.hid hu
  have HV := Lib.hid hv
  have hb1 := bone w (.cells #[.slice A l.length c] 25)
  have hb12 := bbox hb1 (.cells #[.slice A2 l.length c2] 25)
  have hB1 := (Blk.new w 25 #[.slice A l.length c]).now (bone _ (.cells #[.slice A2 l.length c2] 25))
  have hB2 := Blk.new (w.alloc (.cells #[.slice A l.length c] 25)) 25 #[.slice A2 l.length c2]
  rw [World.size_alloc] at hB2
  clear hu hv hb1
  go_enter Tryz.func18, Tryz.ntmps18
  go_wp2_with fail
  obtain ⟨w2, hw2⟩ : ∃ w2, (w.alloc (.cells #[.slice A l.length c] 25)).alloc (.cells #[.slice A2 l.length c2] 25) = w2 := ⟨_, rfl⟩
  rw [hw2] at hb12 hB1 hB2 ⊢
  clear hw2
  have HB12 := Lib.hid hb12
  have HB1 := Lib.hid hB1
  have HB2 := Lib.hid hB2
  clear hb12 hB1 hB2
  go_loopw [5] (fun iv wr => ∃ k : Nat, iv = .int .i64 (k : Int) ∧ k ≤ l.length ∧ Hid (Below w2.heap.size w2 wr)) (fun iv _ => l.length - (intOf iv).toNat)
  case atStart => exact ⟨0, rfl, Nat.zero_le _, Lib.hid (Below.refl _ _)⟩
  case round =>
    obtain ⟨k, rfl, hk, HR⟩ := hrel
    have hw12 := HB12.out.size
    have hB1r := HB1.out.now HR.out
    have hB2r := HB2.out.now HR.out
    have r1 := hB1r.c1
    have r2 := hB2r.c1
    by_cases hlt : k < l.length
    · have HBR := Lib.hid (HB12.out.trans (HR.out.mono hw12))
      obtain ⟨b, o, e, dv, rfl, hD, hx, _, hdv, f0, f1, f2, f3, f4, f5⟩ := SlEv.at_ HU.out hlt
      obtain ⟨b', o', e', dv', rfl, hD', hx', _, hdv', g0, g1, g2, g3, g4, g5⟩ := SlEv.at_ HV.out hlt
      rw [hx] at hx'
      injection hx' with hx'
      subst hx'
      have hE := fun W => HBR.out.trans ((ext_below wr W).mono HBR.out.size)
      have hES := fun W => (hE W).size
      have p0 := fun W => ((hE W).cell (p := ⟨b, o + k * 6, none⟩) hD).trans f0
      have p1 := fun W => ((hE W).cell (p := ⟨b, o + k * 6 + 1, none⟩) hD).trans f1
      have p2 := fun W => ((hE W).cell (p := ⟨b, o + k * 6 + 2, none⟩) hD).trans f2
      have p3 := fun W => ((hE W).cell (p := ⟨b, o + k * 6 + 3, none⟩) hD).trans f3
      have p4 := fun W => ((hE W).cell (p := ⟨b, o + k * 6 + 4, none⟩) hD).trans f4
      have p5 := fun W => ((hE W).cell (p := ⟨b, o + k * 6 + 5, none⟩) hD).trans f5
      have q0 := fun W => ((hE W).cell (p := ⟨b', o' + k * 6, none⟩) hD').trans g0
      have q1 := fun W => ((hE W).cell (p := ⟨b', o' + k * 6 + 1, none⟩) hD').trans g1
      have q2 := fun W => ((hE W).cell (p := ⟨b', o' + k * 6 + 2, none⟩) hD').trans g2
      have q3 := fun W => ((hE W).cell (p := ⟨b', o' + k * 6 + 3, none⟩) hD').trans g3
      have q4 := fun W => ((hE W).cell (p := ⟨b', o' + k * 6 + 4, none⟩) hD').trans g4
      have q5 := fun W => ((hE W).cell (p := ⟨b', o' + k * 6 + 5, none⟩) hD').trans g5
      have t1 : ∀ W, (ext wr W).cell? ⟨w.heap.size, 0, none⟩ = some (.slice (some ⟨b, o, none⟩) l.length c) := fun W => (hB1r.now (ext_below wr W)).c1
      have t2 : ∀ W, (ext wr W).cell? ⟨w.heap.size + 1, 0, none⟩ = some (.slice (some ⟨b', o', none⟩) l.length c2) := fun W => (hB2r.now (ext_below wr W)).c1
      have HS : Hid (∀ W, Calls Tryz.prog 38 #[.agg #[.string e.cas, .string e.act, .string e.res, .int .i64 e.life, .int .i64 e.time, dv], .agg #[.string e.cas, .string e.act, .string e.res, .int .i64 e.life, .int .i64 e.time, dv']] (ext wr W) fun x w' => x = .returned (.bool true) ∧ Below (ext wr W).heap.size (ext wr W) w') :=
        Lib.hid fun W => evSame_ref e dv dv' (ext wr W) (SlFl.below hdv (hE W) (hES W)) (SlFl.below hdv' (hE W) (hES W))
      have i1 : (0 : Int) ≤ (k : Int) := by omega
      have i2 : (k : Int) < (l.length : Int) := by omega
      have HR' := HR
      clear hx f0 f1 f2 f3 f4 f5 g0 g1 g2 g3 g4 g5 hdv hdv' hE hES hB1r hB2r
      go_upto_region 6 with fail
      refine wp_region_growV (by kernel_rfl) (by kernel_rfl) ?_
      repeat (refine veil_step (fun K hK => ?_); go_simp; first | (refine hK _ ?_; clear hK K) | (apply Exists.intro; refine ⟨fun Wq => ?_, hK _ ?_⟩; ((go_at_call 38; exact grow_of (HS.out Wq))); clear hK K))
      refine veil_nil ?_
      intro _ hw'
      obtain ⟨W, rfl⟩ := hw'
      go_wp2_with fail
      go_roundw
      case rel => exact ⟨k + 1, by go_num, by omega, Lib.hid (HR'.out.trans ((ext_below wr W).mono HR'.out.size))⟩
      case measure => simp [intOf]; omega
    · obtain rfl : k = l.length := by omega
      have z1 : ¬ (l.length : Int) < (l.length : Int) := by omega
      have HF := Lib.hid (HB12.out.trans (HR.out.mono hw12))
      clear hB1r hB2r
      go_wp2_with fail
      go_ret
      exact ⟨rfl, HF.out⟩
end Go.Proofs.YtjglmjdfndcmmaaGreat

namespace Go.Proofs.YtjglmjdfndcmmaaGreat
open Go.RowKit
theorem equalS (u v : Value) (xs ys : List ByteArray) (w : World) (hu : SlS (Lt w.heap.size) w u xs) (hv : SlS (Lt w.heap.size) w v ys) :
    Calls Tryz.prog 19 #[u, v] w fun e w' => e = .returned (.bool (decide (xs = ys))) ∧ ∃ q, w' = w.drewN q := by
  obtain ⟨A, c, rfl, h1, h2, hu⟩ := hu.open_
  obtain ⟨A', c', rfl, h1', h2', hv⟩ := hv.open_
  by_cases hn : 0 < xs.length ∧ 0 < ys.length
  · obtain ⟨b, o, rfl, hD, _, hc⟩ := hu.cells hn.1
    obtain ⟨b', o', rfl, hD', _, hc'⟩ := hv.cells hn.2
    refine (Tryz.slices_Equal_string b o xs.length c b' o' ys.length c' xs ys w (Nat.le_refl _) (Nat.le_refl _) (by omega) (by omega) hc hc').mono ?_
    rintro e w' ⟨rfl, hq⟩
    rw [List.take_of_length_le (Nat.le_refl _), List.take_of_length_le (Nat.le_refl _)]
    exact ⟨rfl, hq⟩
  · by_cases hl : xs.length = ys.length
    · have e1 : xs = [] := List.eq_nil_of_length_eq_zero (by omega)
      have e2 : ys = [] := List.eq_nil_of_length_eq_zero (by omega)
      subst e1 e2
      refine (Tryz.slices_Equal_string_empty A A' c 0 c' w (by omega)).mono ?_
      rintro e w' ⟨rfl, rfl⟩
      exact ⟨ret_bool (by simp), 0, rfl⟩
    · refine (Tryz.slices_Equal_string_lens A A' xs.length c ys.length c' w hl).mono ?_
      rintro e w' ⟨rfl, rfl⟩
      refine ⟨ret_bool ?_, 0, rfl⟩
      symm
      rw [decide_eq_false_iff_not]
      exact fun e => hl (by rw [e])
end Go.Proofs.YtjglmjdfndcmmaaGreat
