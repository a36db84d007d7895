/- Texts of this seat, merged. -/
import Derived.BigQuiet
import Derived.Deep.QuietTactic
import Derived.Deep.CutRange
import Derived.Deep.RegionLaw
import Derived.ProofKit
import Derived.Deep.Slices
import Derived.Deep.Fields
import Derived.Deep.Strs
import Derived.ChangeSame
import Derived.Lib.SmallJoins
import Derived.LaidMore
import Derived.OpenShut
import Derived.Stop.Joined
import Derived.Test.YtjglmjdfndcmmaaGreatRows
import Derived.JoinedOf
import Derived.Handed
import Derived.Test.YtjglmjdfndcmmaaGreatZa01
import Derived.Test.YtjglmjdfndcmmaaGreatZa02
import Derived.Test.YtjglmjdfndcmmaaGreatZa03
import Derived.Test.YtjglmjdfndcmmaaGreatZa04
import Derived.Test.YtjglmjdfndcmmaaGreatZa05
import Derived.Test.YtjglmjdfndcmmaaGreatZa06
import Derived.Test.YtjglmjdfndcmmaaGreatZa07
import Derived.Test.YtjglmjdfndcmmaaGreatZa08
import Derived.Test.YtjglmjdfndcmmaaGreatZa09
import Derived.Test.YtjglmjdfndcmmaaGreatZa10
import Derived.Test.YtjglmjdfndcmmaaGreatZa11
import Derived.Test.YtjglmjdfndcmmaaGreatZa12
import Derived.Test.YtjglmjdfndcmmaaGreatZa13
set_option linter.all false
set_option linter.all false
namespace Go.Proofs.YtjglmjdfndcmmaaGreat
open Go.RowKit
def RetOpen (l : List UInt8) (w : World) (e : Ending) (w' : World) : Prop := ∃ (ev : Value) (x : List Ev) (k : Int), e = .returned (.tuple #[.agg #[ev], .int .i64 k]) ∧ SlEv (fun b => w.heap.size ≤ b ∧ b < w'.heap.size) w' ev x ∧ OpenSaid l x k ∧ Below w.heap.size w w'
def RetOpenW (l : List UInt8) (w : World) (e : Ending) (w' : World) : Prop := ∃ (ev : Value) (x : List Ev) (k : Int), e = .returned (.tuple #[.agg #[ev], .int .i64 k]) ∧ (SlEv (fun b => w.heap.size < b ∧ b < w'.heap.size) w' ev x ∧ ∃ A, ev = .slice A x.length x.length) ∧ OpenSaid l x k ∧ Below w.heap.size w w'
theorem RetOpenW.weak {l : List UInt8} {w w' : World} {e : Ending} (h : RetOpenW l w e w') : RetOpen l w e w' := by
  obtain ⟨ev, x, k, h1, h2, h3, h4⟩ := h
  exact ⟨ev, x, k, h1, Sl.keep h2.1 REv.kept (fun b hb => ⟨Nat.le_of_lt hb.1, hb.2⟩) (Same.refl _ _), h3, h4⟩
theorem retOpenW_err {l : List UInt8} {w W : World} {k : Int} (h : OpenSaid l [] k) (hb : Below w.heap.size w W) : RetOpenW l w (.returned (.tuple #[.agg #[.slice none 0 0], .int .i64 k])) W :=
  ⟨.slice none 0 0, [], k, rfl, ⟨Sl.none_, none, rfl⟩, h, hb⟩
theorem retOpenW_good {l : List UInt8} {w : World} (h4 : 4 ≤ l.length) (hm : l.length ≤ 262144) (hs : SumOk l) {e : Ending} {w' : World} (h : RetOpenO l w e w') : RetOpenW l w e w' := by
  obtain ⟨ev, x, k, h1, h2, h3, h5⟩ := h
  exact ⟨ev, x, k, h1, h2, .inr (.inr ⟨hm, h4, hs, h3⟩), h5⟩
theorem SlEv.fresh {lo : Nat} {w : World} {v : Value} {x : List Ev} (h : SlEv (fun b => lo ≤ b ∧ b < w.heap.size) w v x) : SlEv (Lt w.heap.size) w v x := Sl.keep h REv.kept (fun b hb => hb.2) (Same.refl _ _)
theorem retOpen_err {l : List UInt8} {w W : World} {k : Int} (h : OpenSaid l [] k) (hb : Below w.heap.size w W) : RetOpen l w (.returned (.tuple #[.agg #[.slice none 0 0], .int .i64 k])) W :=
  ⟨.slice none 0 0, [], k, rfl, Sl.none_, h, hb⟩
theorem retOpen_good {l : List UInt8} {w : World} (h4 : 4 ≤ l.length) (hm : l.length ≤ 262144) (hs : SumOk l) {e : Ending} {w' : World} (h : RetOpenG l w e w') : RetOpen l w e w' := by
  obtain ⟨ev, x, k, h1, h2, h3, h5⟩ := h
  exact ⟨ev, x, k, h1, h2, .inr (.inr ⟨hm, h4, hs, h3⟩), h5⟩
set_option maxHeartbeats 1000000 in
set_option maxRecDepth 100000 in
theorem open_own (u : Value) (l : List UInt8) (w : World) (h : SlC (Lt w.heap.size) w u l) : Calls Tryz.prog 21 #[u] w (RetOpenW l w) := by
  by_cases hbig : 262144 < l.length
  · have HF := Lib.hid (retOpenW_err (l := l) (w := w) (k := 5) (.inl ⟨hbig, rfl, rfl⟩) (bone w (.cells #[.slice none 0 0] 25)))
    obtain ⟨A, c, rfl, h1, h2, hs⟩ := h.open_
    have z1 : (262144 : Int) < (l.length : Int) := by omega
    have hB := Blk.new w 25 #[.slice none 0 0]
    have r0 := hB.c1
    have fz := hB.frozen 0
    have r1 := (hB.set_ 0 (.slice none 0 0)).c1
    clear h hs hB
    go_enter Tryz.func21, Tryz.ntmps21
    go_wp2_with fail
    refine bodyPost_ret (v := .tuple #[.agg #[.slice none 0 0], .int .i64 5]) (by simp [results, Tryz.results21, go_sem, r1]) rfl ?_
    exact HF.out
  · by_cases h4 : l.length < 4
    · have HF := Lib.hid (retOpenW_err (l := l) (w := w) (k := 14) (.inr (.inl ⟨by omega, .inl h4, rfl, rfl⟩)) (bone w (.cells #[.slice none 0 0] 25)))
      obtain ⟨A, c, rfl, h1, h2, hs⟩ := h.open_
      have z1 : ¬ (262144 : Int) < (l.length : Int) := by omega
      have z2 : (l.length : Int) < 4 := by omega
      have hB := Blk.new w 25 #[.slice none 0 0]
      have r0 := hB.c1
      have fz := hB.frozen 0
      have r1 := (hB.set_ 0 (.slice none 0 0)).c1
      clear h hs hB
      go_enter Tryz.func21, Tryz.ntmps21
      go_wp2_with fail
      refine bodyPost_ret (v := .tuple #[.agg #[.slice none 0 0], .int .i64 14]) (by simp [results, Tryz.results21, go_sem, r1]) rfl ?_
      exact HF.out
    · by_cases hs : SumOk l
      · exact (open_goodO u l w h (by omega) (by omega) hs).mono fun e w' hr => retOpenW_good (by omega) (by omega) hs hr
      · refine (open_bad u l w h (by omega) (by omega) hs).mono ?_
        rintro e w' ⟨rfl, hb⟩
        exact retOpenW_err (.inr (.inl ⟨by omega, .inr hs, rfl, rfl⟩)) hb
set_option maxHeartbeats 4000000 in
set_option maxRecDepth 100000 in
theorem open_refB (u : Value) (l : List UInt8) (w : World) (h : SlC (Lt w.heap.size) w u l) (h4 : 4 ≤ l.length) (hm : l.length ≤ 262144) (hne : ¬ SumOk l) :
    Calls Tryz.prog 14 #[u] w (RetOpen l w) := by
  have hm0 := hm
  have hbad := hne
  unfold SumOk at hne
  obtain ⟨A, c, rfl, h1, h2, hs⟩ := h.open_
  obtain ⟨b, o, _, rfl, _, _, _⟩ := SlC.at_ hs (k := 0) (by omega)
  obtain ⟨n, hn⟩ : ∃ n, l.length = n + 4 := ⟨l.length - 4, by omega⟩
  have hn4 : l.length - 4 = n := by omega
  have HBD : Hid (l.take n = l.take (l.length - 4)) := Lib.hid (by rw [hn4])
  have hbl : (l.take n).length = n := by rw [List.length_take]; omega
  rw [hn4] at hne
  rw [hn] at hs h1 hm ⊢
  have hs1 : SlC (Lt w.heap.size) w (.slice (some ⟨b, o, none⟩) n c) (l.take n) := by
    have := Sl.sub hs 0 n c (by omega) (by omega) (by unfold maxLen; exact h2)
    rw [Nat.zero_mul, Nat.add_zero, List.drop_zero] at this
    exact this
  have hb1 := bone w (.cells #[.slice none 0 0] 25)
  have hB1 := Blk.new w 25 #[.slice none 0 0]
  obtain ⟨x0, x1, x2, x3, hd4, k0, k1, k2, k3⟩ := last4 (hs.now hb1) hn
  have hsl := sumOf_lt (l.take n)
  rw [hd4] at hne
  have hsv : ¬ sumOf (l.take n) = x0.toNat + 256 * x1.toNat + 65536 * x2.toNat + 16777216 * x3.toNat := fun h => hne ((le4_val hsl x0 x1 x2 x3).2 h)
  have HS0 := Lib.hid hs
  have HS1 := Lib.hid hs1
  have hsm := fun q : Nat => sum_ref _ _ _ (hs1.now (below_drewN hb1 q))
  have HOE := Lib.hid (fun W : World => retOpen_err (l := l) (w := w) (W := W) (k := 14) (.inr (.inl ⟨hm0, .inr hbad, rfl, rfl⟩)))
  obtain ⟨S, hS⟩ : ∃ S : Int, ((sumOf (l.take n) : Nat) : Int) = S := ⟨_, rfl⟩
  have hsz : (S != (x0.toNat : Int) + 256 * (x1.toNat : Int) + 65536 * (x2.toNat : Int) + 16777216 * (x3.toNat : Int)) = true := by
    rw [bne_iff_ne, ← hS]
    intro e
    exact hsv (by omega)
  rw [hS] at hsm
  clear hS
  have hx0 := UInt8.toNat_lt x0
  have hx1 := UInt8.toNat_lt x1
  have hx2 := UInt8.toNat_lt x2
  have hx3 := UInt8.toNat_lt x3
  have hsums := sums (n := n) (a := (x0.toNat : Int)) (b := (x1.toNat : Int)) (c := (x2.toNat : Int)) (d := (x3.toNat : Int)) (by omega) (by omega) (by omega) (by omega) (by omega)
  generalize (x0.toNat : Int) = y0 at *
  generalize (x1.toNat : Int) = y1 at *
  generalize (x2.toNat : Int) = y2 at *
  generalize (x3.toNat : Int) = y3 at *
  have hnn : (0 : Int) ≤ (n : Int) := by omega
  have hn1 : (0 : Int) ≤ (n : Int) + 1 := by omega
  have hn2 : (0 : Int) ≤ (n : Int) + 2 := by omega
  have hn3 : (0 : Int) ≤ (n : Int) + 3 := by omega
  have hl0 : (n : Int) < (n : Int) + 4 := by omega
  have hl1 : (n : Int) + 1 < (n : Int) + 4 := by omega
  have hl2 : (n : Int) + 2 < (n : Int) + 4 := by omega
  have hl3 : (n : Int) + 3 < (n : Int) + 4 := by omega
  have ht1 : ((n : Int) + 1).toNat = n + 1 := by omega
  have ht2 : ((n : Int) + 2).toNat = n + 2 := by omega
  have ht3 : ((n : Int) + 3).toNat = n + 3 := by omega
  have hbi : ¬ (262144 : Int) < (n : Int) + 4 := by omega
  have hnb : (n : Int) ≤ 262140 := by omega
  have hnc : n ≤ c := by omega
  have HLN := Lib.hid hn
  have hHSM : Hid (∀ q : Nat, Calls Tryz.prog 32 #[.slice (some ⟨b, o, none⟩) n c] ((w.alloc (.cells #[.slice none 0 0] 25)).drewN q) fun e w' => e = .returned (.int .i64 S) ∧ ∃ m, w' = ((w.alloc (.cells #[.slice none 0 0] 25)).drewN q).drewN m) := Lib.hid (fun q => (hsm q).mono fun e w' ⟨he, hw⟩ => ⟨he, 0, hw.symm⟩)
  obtain ⟨body, hbody⟩ : ∃ body, l.take n = body := ⟨_, rfl⟩
  rw [hbody] at HBD hbl HS1
  have HBL := Lib.hid hbl
  have HSU := Lib.hid hsums
  clear hm hn hbody hsm hsums
  clear hs hs1 h hn4 h4 hne hbad hm0 hd4 hsv hsl hx0 hx1 hx2 hx3
  go_enter Tryz.func14, Tryz.ntmps14
  go_upto_region 6 with fail
  obtain ⟨a1, a2, a3, c0, c1, c2, c3, m1, m2, m3, s1, s2, s3⟩ := HSU.out
  go_quiet ((go_at_call 32; (with_reducible exact Calls.quiet_of (hHSM.out _))))
  clear a1 a2 a3 c0 c1 c2 c3 m1 m2 m3 s1 s2 s3 HSU hn1 hn2 hn3 hl0 hl1 hl2 hl3 ht1 ht2 ht3
  have hb12 := below_drewN hb1 nq
  have hBP := hB1.drewN nq
  have r0 := hBP.c1
  have fz := hBP.frozen 0
  have r1 := (hBP.set_ 0 (.slice none 0 0)).c1
  have HF := Lib.hid (HOE.out _ (hb12.setCell (p := ⟨w.heap.size, 0, none⟩) (Nat.le_refl _) (.slice none 0 0)))
  clear hBP hB1 hHSM
  go_wp2_with fail
  refine bodyPost_ret (v := .tuple #[.agg #[.slice none 0 0], .int .i64 14]) (by simp [results, Tryz.results14, go_sem, r1]) rfl ?_
  exact HF.out
set_option maxHeartbeats 1000000 in
set_option maxRecDepth 100000 in
theorem open_ref (u : Value) (l : List UInt8) (w : World) (h : SlC (Lt w.heap.size) w u l) : Calls Tryz.prog 14 #[u] w (RetOpen l w) := by
  by_cases hbig : 262144 < l.length
  · have HF := Lib.hid (retOpen_err (l := l) (w := w) (k := 5) (.inl ⟨hbig, rfl, rfl⟩) (bone w (.cells #[.slice none 0 0] 25)))
    obtain ⟨A, c, rfl, h1, h2, hs⟩ := h.open_
    have z1 : (262144 : Int) < (l.length : Int) := by omega
    have hB := Blk.new w 25 #[.slice none 0 0]
    have r0 := hB.c1
    have fz := hB.frozen 0
    have r1 := (hB.set_ 0 (.slice none 0 0)).c1
    clear h hs hB
    go_enter Tryz.func14, Tryz.ntmps14
    go_wp2_with fail
    refine bodyPost_ret (v := .tuple #[.agg #[.slice none 0 0], .int .i64 5]) (by simp [results, Tryz.results14, go_sem, r1]) rfl ?_
    exact HF.out
  · by_cases h4 : l.length < 4
    · have HF := Lib.hid (retOpen_err (l := l) (w := w) (k := 14) (.inr (.inl ⟨by omega, .inl h4, rfl, rfl⟩)) (bone w (.cells #[.slice none 0 0] 25)))
      obtain ⟨A, c, rfl, h1, h2, hs⟩ := h.open_
      have z1 : ¬ (262144 : Int) < (l.length : Int) := by omega
      have z2 : (l.length : Int) < 4 := by omega
      have hB := Blk.new w 25 #[.slice none 0 0]
      have r0 := hB.c1
      have fz := hB.frozen 0
      have r1 := (hB.set_ 0 (.slice none 0 0)).c1
      clear h hs hB
      go_enter Tryz.func14, Tryz.ntmps14
      go_wp2_with fail
      refine bodyPost_ret (v := .tuple #[.agg #[.slice none 0 0], .int .i64 14]) (by simp [results, Tryz.results14, go_sem, r1]) rfl ?_
      exact HF.out
    · by_cases hs : SumOk l
      · exact (open_refG u l w h (by omega) (by omega) hs).mono fun e w' hr => retOpen_good (by omega) (by omega) hs hr
      · exact open_refB u l w h (by omega) (by omega) hs
end Go.Proofs.YtjglmjdfndcmmaaGreat

set_option linter.all false
namespace Go.Proofs.YtjglmjdfndcmmaaGreat
open Go.RowKit
theorem OwnL.mono {w : World} {base : Nat} {D D' : Nat → Prop} {v : Value} {xs : List Ev} (h : OwnL w base D v xs) (hD : ∀ b, D b → D' b) : OwnL w base D' v xs := by
  obtain ⟨ps, rfl, h1, h2⟩ := h
  exact ⟨ps, rfl, h1, fun p hp => ⟨(h2 p hp).1, Sl.keep (h2 p hp).2 RFld.kept hD (Same.refl _ _)⟩⟩
theorem wp_appendEvsL {o : Oper} {a : Act} {K : Act → World → Prop} {Q : Exit → Act → World → Prop} (s x : Operand)
    (ho : o.op = .call { callee := .builtin .append, args := #[s, x], argTypes := #[23, 23] }) (w : World) {base : Nat} {D : Nat → Prop} {xs ys : List Ev}
    (v : Value) (hs : a.eval s = v) (hown : OwnL w base D v xs) (u : Value) (hx : a.eval x = u) (hu : SlEv D w u ys) (hn : xs.length + ys.length < 10000000) (hbase : base ≤ w.heap.size)
    (hD : ∀ b, D b → b < w.heap.size ∧ v.ownBlock ≠ some b)
    (h : ∀ v' w', OwnL w' base D v' (xs ++ ys) → Chg (fun b => base ≤ b ∧ v.ownBlock = some b) w w' → (v'.ownBlock = v.ownBlock ∨ v'.ownBlock = some w.heap.size) → K (a.put o.dst v') w') : o.wp Tryz.prog a w K Q := by
  obtain ⟨ps, rfl, h1, h2⟩ := hown
  obtain ⟨qs, rfl, k1, k2⟩ := SlEv.pairs hu
  rw [List.length_map, List.length_map] at hn
  refine wp_appendAllW (fc := cellP) appEvs s x ho w (fun _ => rfl) ps v hs h1 u qs hx k1 (fun y c hc => hc) (fun y => y.property) hn hbase fun v' w' g1 g2 g3 => ?_
  have hC : Chg (fun b => base ≤ b ∧ v.ownBlock = some b) w w' := ⟨g2.os, g2.tape, g2.output, g2.size, fun i hi hn => g2.block i hi (fun e => hn ⟨(World.ownsRow.lt h1 i e.symm).1, e.symm⟩)⟩
  refine h v' w' ⟨ps ++ qs, by rw [List.map_append], g1, fun p hp => ?_⟩ hC g3
  rcases List.mem_append.1 hp with hp | hp
  · exact ⟨(h2 p hp).1, Sl.keep (h2 p hp).2 RFld.kept (fun _ => id) (fun b hb => hC.block b (hD b hb).1 (fun e => (hD b hb).2 e.2))⟩
  · exact ⟨(k2 p hp).1, Sl.keep (k2 p hp).2 RFld.kept (fun _ => id) (fun b hb => hC.block b (hD b hb).1 (fun e => (hD b hb).2 e.2))⟩
abbrev RPairT : ElemR PairT := fun _ _ p cs => cs = pairC p.val
theorem pairs_flat {D : Nat → Prop} {w : World} {A : Option Addr} {n c : Nat} {ps : List PairT} (h : Sl 6 RPairT D w (.slice A n c) ps) (h0 : 0 < ps.length) : ∃ b off, A = some ⟨b, off, none⟩ ∧ D b ∧ ∀ j u, (flat cellP ps)[j]? = some u → w.cell? ((⟨b, off, none⟩ : Addr).add j) = some u := by
  obtain ⟨A', c', hv, _, _, h3⟩ := h
  injection hv with hA _ _
  subst hA
  obtain ⟨b, off, _, hA, hD, _⟩ := h3 0 ps[0] (List.getElem?_eq_getElem h0)
  refine ⟨b, off, hA, hD, fun j u hj => ?_⟩
  obtain ⟨i, r, y, rfl, hr, hy, hfu⟩ := flat_at (fc := cellP) (size := 6) (fun _ => rfl) (by omega) ps hj
  obtain ⟨b', off', cs, hA', _, _, hR, hcell⟩ := h3 i y hy
  rw [hA] at hA'
  injection hA' with hA'
  injection hA' with e1 e2 _
  subst e1 e2
  rw [hR] at hcell
  have h1 := hcell r u hfu
  have h2 : ((⟨b, off, none⟩ : Addr).add (i * 6 + r)) = ⟨b, off + (i * 6 + r), none⟩ := by generalize i * 6 + r = J; unfold Addr.add; by_cases hj : J = 0 <;> simp [hj]
  rw [h2, ← Nat.add_assoc]
  exact h1
theorem run_full {ty : TypeId} (w : World) {D : Nat → Prop} (A B : Option Addr) (c : Nat) (ps qs : List PairT) (h : Sl 6 RPairT D w (.slice A ps.length ps.length) ps) (hu : Sl 6 RPairT D w (.slice B qs.length c) qs) (hn : ps.length + qs.length < 10000000) (hD : ∀ b, D b → b < w.heap.size) :
    ∃ v' w', (Builtin.append_ #[23, 23] ty #[.slice A ps.length ps.length, .slice B qs.length c]).run Tryz.prog w = .ok v' w' ∧ Sl 6 RPairT (Lt w'.heap.size) w' v' (ps ++ qs) ∧ Below w.heap.size w w' := by
  obtain ⟨i, z, ht, hi, hz, hsz, hby, hzs, hp⟩ := appEvs
  rcases Nat.eq_zero_or_pos qs.length with h0 | h0
  · obtain rfl : qs = [] := List.eq_nil_of_length_eq_zero h0
    refine ⟨.slice A ps.length ps.length, w, ?_, by rw [List.append_nil]; exact Sl.keep h (fun _ _ _ _ _ _ _ _ h => h) (fun b hb => hD b hb) (Same.refl _ _), Below.refl _ _⟩
    rcases A with _ | ad <;> rcases B with _ | bd <;> simp [Builtin.append_, run_underlying ht, sizeOf, typeInfo, hi, Builtin.lenOf, Builtin.firstCells, storeCells, loadCells, loadCellsFrom]
  · obtain ⟨b', off', rfl, hD', hnews⟩ := pairs_flat hu h0
    by_cases hA : A = none
    · subst hA
      have hps : ps = [] := by
        rcases Nat.eq_zero_or_pos ps.length with h1 | h1
        · exact List.eq_nil_of_length_eq_zero h1
        · obtain ⟨_, _, e, _⟩ := pairs_flat h h1; cases e
      subst hps
      obtain ⟨v', w', hrun, h2, h3, _, h5⟩ := run_append_own_at (P := Tryz.prog) w w.heap.size 23 ty 57 i z 6 i.bytes ht hi hz hsz rfl hzs hp (.slice none 0 0) 0 [] (World.ownsRow_nil _ _ _ _) ⟨b', off', none⟩ qs.length c (flat cellP qs) (flat_len (fc := cellP) (size := 6) (fun _ => rfl) qs) hnews (by intro u hu; obtain ⟨y, _, hy⟩ := List.mem_flatMap.1 hu; exact y.property u hy) (by unfold maxLen; omega) (by
        have : (0 + qs.length) * i.bytes ≤ 10000000 * 4096 := Nat.mul_le_mul (by omega) hby
        omega) (Nat.le_refl _)
      refine ⟨v', w', hrun, ?_, below_of_grown h3 (Nat.le_refl _) (fun g hg => by cases hg)⟩
      have h6 : OwnW 6 cellP w' w.heap.size 57 v' qs := by
        unfold OwnW
        rw [Nat.zero_add, List.nil_append] at h2
        exact h2
      exact OwnW.sl h6 (fun _ => rfl) (fun _ _ _ _ => rfl)
    · obtain ⟨ad, rfl⟩ : ∃ ad, A = some ad := by cases A; exact absurd rfl hA; exact ⟨_, rfl⟩
      have holds : ∀ j v, (flat cellP ps)[j]? = some v → w.cell? (ad.add j) = some v := by
        rcases Nat.eq_zero_or_pos ps.length with h1 | h1
        · have := List.eq_nil_of_length_eq_zero h1
          subst this
          intro j v hj; simp [flat] at hj
        · obtain ⟨b, off, e, _, h2⟩ := pairs_flat h h1
          injection e with e
          subst e
          exact h2
      have hr := run_append_grow (P := Tryz.prog) w 23 ty 57 i z ht hi hz ad ps.length ps.length (flat cellP ps) (by rw [hsz]; exact flat_len (fc := cellP) (size := 6) (fun _ => rfl) ps) holds ⟨b', off', none⟩ qs.length c (flat cellP qs) (by rw [hsz]; exact flat_len (fc := cellP) (size := 6) (fun _ => rfl) qs) hnews (by omega) (by omega) (growslice_fits (by omega) (by
        have : (ps.length + qs.length) * i.bytes ≤ 10000000 * 4096 := Nat.mul_le_mul (by omega) hby
        omega))
      refine ⟨_, _, hr, ?_, below_drew_left (bone w.drew _)⟩
      refine ⟨some ⟨w.heap.size, 0, none⟩, _, by rw [List.length_append], by rw [List.length_append]; exact grownCap_ge _ _ _ _, grownCap_le_maxLen _ _ _ _ (by unfold maxLen; omega), fun k p hk => ⟨w.heap.size, 0, cellP p, rfl, by show w.heap.size < _; rw [World.size_alloc]; exact Nat.lt_succ_self _, rfl, rfl, fun j u hj => ?_⟩⟩
      have hj6 : j < 6 := by
        rcases Nat.lt_or_ge j 6 with h' | h'
        · exact h'
        · rw [List.getElem?_eq_none (by exact h')] at hj; cases hj
      have hkl := (List.getElem?_eq_some_iff.1 hk).1
      have hf := flat_get (size := 6) (fc := cellP) (fun _ => rfl) (ps ++ qs) k j p hk hj6
      rw [Nat.zero_add]
      refine ((Blk.new w.drew 57 _).cell _).trans ?_
      rw [flat_append] at hf
      have hl1 : (flat cellP ps).length = ps.length * 6 := flat_len (fc := cellP) (size := 6) (fun _ => rfl) ps
      have hl2 : (flat cellP qs).length = qs.length * 6 := flat_len (fc := cellP) (size := 6) (fun _ => rfl) qs
      rw [List.length_append] at hkl
      rw [Array.getElem?_append_left (by simp [hl1, hl2]; omega), List.append_toArray, List.getElem?_toArray, hf]
      exact hj
theorem evs_of_pairs {D : Nat → Prop} {w : World} {v : Value} {ps : List PairT} (h : Sl 6 RPairT D w v ps) (h2 : ∀ p ∈ ps, FitEv p.val.1 ∧ SlFl D w p.val.2 p.val.1.data) : SlEv D w v (ps.map fun p => p.val.1) := by
  obtain ⟨A, c, rfl, g1, g2, g3⟩ := h
  refine ⟨A, c, by simp, by simpa using g1, g2, fun i x hx => ?_⟩
  rw [List.getElem?_map, Option.map_eq_some_iff] at hx
  obtain ⟨p, hp, rfl⟩ := hx
  obtain ⟨b, o, cs, hA, hD', hl, rfl, hc⟩ := g3 i p hp
  obtain ⟨f1, f2⟩ := h2 p (List.mem_of_getElem? hp)
  exact ⟨b, o, _, hA, hD', hl, ⟨_, rfl, f1, f2⟩, hc⟩
theorem wp_appendFull {o : Oper} {a : Act} {K : Act → World → Prop} {Q : Exit → Act → World → Prop} (s x : Operand)
    (ho : o.op = .call { callee := .builtin .append, args := #[s, x], argTypes := #[23, 23] }) (w : World) {D : Nat → Prop} {xs ys : List Ev}
    (A : Option Addr) (hs : a.eval s = .slice A xs.length xs.length) (hv : SlEv D w (.slice A xs.length xs.length) xs) (u : Value) (hx : a.eval x = u) (hu : SlEv D w u ys) (hn : xs.length + ys.length < 10000000)
    (hD : ∀ b, D b → b < w.heap.size)
    (h : ∀ v' w', SlEv (Lt w'.heap.size) w' v' (xs ++ ys) → Below w.heap.size w w' → K (a.put o.dst v') w') : o.wp Tryz.prog a w K Q := by
  obtain ⟨B, c, rfl, _, _, hu⟩ := hu.open_
  obtain ⟨ps, hps, p1, p2⟩ := SlEv.pairs hv
  obtain ⟨qs, hqs, k1, k2⟩ := SlEv.pairs hu
  have hpl : ps.length = xs.length := by rw [← hps, List.length_map]
  have hql : qs.length = ys.length := by rw [← hqs, List.length_map]
  rw [← hpl] at p1
  rw [← hql] at k1
  obtain ⟨v', w', hrun, h2, h3⟩ := run_full (ty := o.type) w A B c ps qs p1 k1 (by omega) hD
  rw [hpl, hql] at hrun
  have h4 : SlEv (Lt w'.heap.size) w' v' (xs ++ ys) := by
    rw [← hps, ← hqs, ← List.map_append]
    refine evs_of_pairs h2 fun p hp => ?_
    have hk : ∀ p : PairT, FitEv p.val.1 ∧ SlFl D w p.val.2 p.val.1.data → FitEv p.val.1 ∧ SlFl (Lt w'.heap.size) w' p.val.2 p.val.1.data := fun p hp => ⟨hp.1, Sl.keep hp.2 RFld.kept (fun b hb => Nat.lt_of_lt_of_le (hD b hb) h3.size) (fun b hb => h3.block b (hD b hb))⟩
    rcases List.mem_append.1 hp with hp | hp
    · exact hk p (p2 p hp)
    · exact hk p (k2 p hp)
  unfold Oper.wp execOp
  simp only [ho, resolve, invoke, builtin, Sem.run_bind, Sem.run_pure, Result.andThen_ok, List.map_toArray, List.map_cons, List.map_nil, hs, hx, hrun]
  exact h v' w' h4 h3
theorem wpList_appendFull {ops : Array Oper} {rest : List Oper} {o : Oper} {a : Act} {Q : Exit → Act → World → Prop} (hgd : o.guard = none) (s x : Operand)
    (ho : o.op = .call { callee := .builtin .append, args := #[s, x], argTypes := #[23, 23] }) (w : World) {D : Nat → Prop} {xs ys : List Ev}
    (A : Option Addr) (hs : a.eval s = .slice A xs.length xs.length) (hv : SlEv D w (.slice A xs.length xs.length) xs) (u : Value) (hx : a.eval x = u) (hu : SlEv D w u ys) (hn : xs.length + ys.length < 10000000)
    (hD : ∀ b, D b → b < w.heap.size)
    (h : ∀ v' w', SlEv (Lt w'.heap.size) w' v' (xs ++ ys) → Below w.heap.size w w' → wpList Tryz.prog ops Q rest (a.put o.dst v') w') : wpList Tryz.prog ops Q (o :: rest) a w :=
  wpList_plain hgd fun _ hK => wp_appendFull s x ho w A hs hv u hx hu hn hD fun v' w' h2 h3 => hK _ _ (h v' w' h2 h3)
def AppSt (w W : World) (v : Value) (xs : List Ev) : Prop := Below w.heap.size w W ∧ OwnL W w.heap.size (Lt w.heap.size) v xs ∧ ∀ b, b < w.heap.size → v.ownBlock ≠ some b
theorem AppSt.new {w W : World} (hb : Below w.heap.size w W) (hB : Blk W w.heap.size 57 #[]) : AppSt w W (.slice (some ⟨w.heap.size, 0, none⟩) 0 0) [] :=
  ⟨hb, ⟨[], rfl, ⟨rfl, .inr ⟨w.heap.size, 0, #[], rfl, Nat.le_refl _, hB, Nat.le_refl _, Nat.zero_le _, rfl, rfl⟩⟩, by simp⟩, fun b hb e => by injection e with e; exact Nat.lt_irrefl _ ((show w.heap.size = b from e) ▸ hb)⟩
theorem AppSt.isSlice {w W : World} {v : Value} {xs : List Ev} (h : AppSt w W v xs) : ∃ A c, v = .slice A xs.length c := OwnL.isSlice h.2.1
theorem AppSt.log {w W : World} {v : Value} {xs : List Ev} (h : AppSt w W v xs) : IsLog (Lt W.heap.size) W (.agg #[v]) xs := ⟨_, rfl, OwnL.sl h.2.1 (fun b hb => Nat.lt_of_lt_of_le hb h.1.size) (fun b _ h => h)⟩
theorem step_appendSt {ops : Array Oper} {o : Oper} {a : Act} {K : Act → World → Prop} {Q : Exit → Act → World → Prop} {Z : Prop} (hgd : o.guard = none) (s x : Operand)
    (ho : o.op = .call { callee := .builtin .append, args := #[s, x], argTypes := #[23, 23] }) (w W : World) {xs ys : List Ev}
    (v : Value) (hs : a.eval s = v) (hown : AppSt w W v xs) (u : Value) (hx : a.eval x = u) (hu : SlEv (Lt w.heap.size) w u ys) (hn : xs.length + ys.length < 10000000)
    (h : ∀ v' w', AppSt w w' v' (xs ++ ys) → K (a.put o.dst v') w') : if Region.wanted o (yielded ops a.tmps) = true then Oper.wp Tryz.prog o a W K Q else Z := by
  have hw : Region.wanted o (yielded ops a.tmps) = true := by simp [Region.wanted, hgd]
  rw [if_pos hw]
  obtain ⟨h1, h2, h3⟩ := hown
  refine wp_appendEvsL s x ho W v hs h2 u hx (Sl.below hu REv.kept h1 (Nat.le_refl _)) hn h1.size (fun b hb => ⟨Nat.lt_of_lt_of_le hb h1.size, h3 b hb⟩) fun v' w' g1 g2 g3 => ?_
  refine h v' w' ⟨h1.trans (g2.below h1.size (fun i hi h => by have := h.1; omega)), g1, fun b hb e => ?_⟩
  rcases g3 with g3 | g3
  · exact h3 b hb (g3 ▸ e)
  · rw [g3] at e; injection e with e; have := h1.size; omega
def lateE (x l : List Ev) : Bool := match x.getLast?, l.head? with
  | some a, some b => decide (b.time < a.time)
  | _, _ => false
def appE (x l : List Ev) (k : Int) : List UInt8 × Int := if k ≠ 0 then ([], k) else if logB l = false then ([], 1) else if lateE x l then ([], 24) else if 2000 < x.length + l.length then ([], 5) else packE (x ++ l)
def RetAppend (b : List UInt8) (l : List Ev) (w : World) (e : Ending) (w' : World) : Prop := ∃ (x : List Ev) (k : Int), OpenSaid b x k ∧ RetPack w.heap.size w (appE x l k) e w'
end Go.Proofs.YtjglmjdfndcmmaaGreat

set_option linter.all false
namespace Go.Proofs.YtjglmjdfndcmmaaGreat
open Go.RowKit
theorem OpenSaid.log {l : List UInt8} {x : List Ev} {k : Int} (h : OpenSaid l x k) : logB x = true := by
  rcases h with ⟨_, rfl, _⟩ | ⟨_, _, rfl, _⟩ | ⟨_, _, _, h⟩
  · exact b5_valid
  · exact b5_valid
  · rcases h with ⟨_, h, _⟩ | ⟨_, rfl, _⟩
    · exact h
    · exact b5_valid
theorem OpenSaid.len {l : List UInt8} {x : List Ev} {k : Int} (h : OpenSaid l x k) : x.length ≤ 2000 := (log_parts h.log).1
def RetBlocks (l : List UInt8) (w : World) (e : Ending) (w' : World) : Prop := ∃ (x : List Ev) (k : Int), OpenSaid l x k ∧ e = .returned (.tuple #[.int .i64 (nParts x : Int), .int .i64 k]) ∧ Below w.heap.size w w'
def BlkSaid (x : List Ev) (k n : Int) (y : List Ev) (r : Int) : Prop := (k ≠ 0 ∧ y = [] ∧ r = k) ∨ (k = 0 ∧ (n < 0 ∨ (nParts x : Int) ≤ n) ∧ y = [] ∧ r = 2) ∨ (k = 0 ∧ ∃ m : Nat, n = (m : Int) ∧ m < nParts x ∧ y = part x m ∧ r = 0)
theorem BlkSaid.unique {x y y' : List Ev} {k n r r' : Int} (h : BlkSaid x k n y r) (h' : BlkSaid x k n y' r') : y' = y ∧ r' = r := by
  rcases h with ⟨h1, rfl, rfl⟩ | ⟨h1, h2, rfl, rfl⟩ | ⟨h1, m, rfl, h2, rfl, rfl⟩ <;> rcases h' with ⟨g1, rfl, rfl⟩ | ⟨g1, g2, rfl, rfl⟩ | ⟨g1, m', g0, g2, rfl, rfl⟩ <;> first | exact ⟨rfl, rfl⟩ | omega | skip
  obtain rfl : m' = m := by omega
  exact ⟨rfl, rfl⟩
def RetBlockAt (l : List UInt8) (n : Int) (w : World) (e : Ending) (w' : World) : Prop := ∃ (x : List Ev) (k : Int) (ev : Value) (y : List Ev) (r : Int), OpenSaid l x k ∧ BlkSaid x k n y r ∧ e = .returned (.tuple #[.agg #[ev], .int .i64 r]) ∧ SlEv (fun b => w.heap.size ≤ b ∧ b < w'.heap.size) w' ev y ∧ Below w.heap.size w w'
end Go.Proofs.YtjglmjdfndcmmaaGreat

set_option linter.all false
namespace Go.Proofs.YtjglmjdfndcmmaaGreat
open Go.RowKit
theorem lateE_nil (l : List Ev) : lateE [] l = false := rfl
theorem lateE_nil2 (x : List Ev) : lateE x [] = false := by unfold lateE; cases x.getLast? <;> rfl
theorem lateE_at {x l : List Ev} {p : Nat} {a b : Ev} (hp : x.length = p + 1) (hx : x[p]? = some a) (hl : l[0]? = some b) : lateE x l = decide (b.time < a.time) := by
  unfold lateE
  rw [List.getLast?_eq_getElem?, hp, Nat.add_sub_cancel, hx, List.head?_eq_getElem?, hl]
theorem append_err {b : List UInt8} {x l : List Ev} {k r : Int} {w W : World} (h : OpenSaid b x k) (he : appE x l k = ([], r)) (hb : Below w.heap.size w W) : RetAppend b l w (.returned (.tuple #[.slice none 0 0, .int .i64 r])) W :=
  ⟨x, k, h, .slice none 0 0, by rw [he], by rw [he]; exact ownC_nil _ _, hb⟩
theorem append_fin {b : List UInt8} {x l : List Ev} {w w5 W : World} {e : Ending} (h : OpenSaid b x 0) (hv : logB l = true) (ht : lateE x l = false) (hn : ¬ 2000 < x.length + l.length) (hb : Below w.heap.size w w5) (hr : RetPack w5.heap.size w5 (packE (x ++ l)) e W) : RetAppend b l w e W := by
  have he : appE x l 0 = packE (x ++ l) := by unfold appE; rw [if_neg (by simp), if_neg (by rw [hv]; decide), ht, if_neg (by decide), if_neg hn]
  obtain ⟨v', h1, h2, h3⟩ := hr
  exact ⟨x, 0, h, v', by rw [he]; exact h1, by rw [he]; exact ownsRow_base_a h2 hb.size, hb.trans (h3.mono hb.size)⟩
set_option maxHeartbeats 2000000 in
set_option maxRecDepth 100000 in
theorem append_any (b : List UInt8) (l : List Ev) (u v : Value) (w : World) (hu : SlC (Lt w.heap.size) w u b) (hv : IsLog (Lt w.heap.size) w v l) :
    Calls Tryz.prog 8 #[u, v] w (RetAppend b l w) := by
  have hv0 := hv
  obtain ⟨ev, rfl, hs⟩ := hv
  obtain ⟨A, c, rfl, _, _, hsl⟩ := hs.open_
  have hb0 := bone w (.cells #[.slice A l.length c] 25)
  have hB0 := Blk.new w 25 #[.slice A l.length c]
  have HL0 := Lib.hid hv0
  have HS0 := Lib.hid hs
  have HO := Lib.hid (open_own u b _ (hu.now hb0))
  obtain ⟨Ab, cb, rfl, _, _, _⟩ := hu.open_
  clear hv0 hs hsl
  go_enter Tryz.func8, Tryz.ntmps8
  go_wp2_with fail
  (with_reducible refine HO.out.mono ?_)
  rintro e w1 ⟨ev1, x, k, rfl, ⟨hx, A1, rfl⟩, hsaid, hb1⟩
  have hx := hx.fresh
  have hx2 := hsaid.len
  have hb2 := bone w1 (.cells #[.slice A1 x.length x.length] 25)
  have hB2 := Blk.new w1 25 #[.slice A1 x.length x.length]
  have hb01 := hb0.trans (hb1.mono hb0.size)
  have hb02 := hb01.trans (hb2.mono hb01.size)
  have hX0 := (hB0.now hb1).now hb2
  have hown := SlEv.now hx hb2
  go_upto_region 2 with fail
  obtain ⟨w2, hw2⟩ : ∃ w2, w1.alloc (.cells #[.slice A1 x.length x.length] 25) = w2 := ⟨_, rfl⟩
  obtain ⟨G, hGG⟩ : ∃ G, w1.heap.size = G := ⟨_, rfl⟩
  obtain ⟨P, hPP⟩ : ∃ P, w.heap.size = P := ⟨_, rfl⟩
  rw [hw2] at hb02 hB2 hX0 hown ⊢
  rw [hGG] at hB2 ⊢
  rw [hPP] at hX0 ⊢
  have HSD := Lib.hid hsaid
  have HB02 := Lib.hid hb02
  clear hw2 hGG hPP hb0 hb1 hb2 hb01 hx hsaid HO hB0
  by_cases hk : k = 0
  · subst hk
    have hlv := logValid_any l _ w2 (HL0.out.now HB02.out)
    have g3 := hX0.c1
    have HW := Lib.hid hown
    cases hvl : logB l
    · rw [hvl] at hlv
      have HLV := Lib.hid hlv
      have HF := Lib.hid (fun W (h : Below w.heap.size w W) => append_err (l := l) (r := 1) HSD.out (by unfold appE; rw [if_neg (by simp), if_pos hvl]) h)
      clear hlv hvl hown hX0 hB2
      go_wp2_with fail
      (with_reducible refine HLV.out.mono ?_)
      rintro e w3 ⟨rfl, hb3⟩
      go_wp2_with fail
      go_ret2
      exact HF.out _ (HB02.out.trans (hb3.mono HB02.out.size))
    · rw [hvl] at hlv
      have HLV := Lib.hid hlv
      have hl2 := (log_parts hvl).1
      have HVL := Lib.hid hvl
      clear hlv hvl hown
      go_wp2_with fail
      (with_reducible refine HLV.out.mono ?_)
      rintro e w3 ⟨rfl, hb3⟩
      have hX3 := hX0.now hb3
      have hG3 := hB2.now hb3
      have g3 := hX3.c1
      have g6 := hG3.c1
      have hb03 := HB02.out.trans (hb3.mono HB02.out.size)
      have HB03 := Lib.hid hb03
      have HX3 := Lib.hid (SlEv.now HW.out hb3)
      have hXl := hX3.lt
      have hGl := hG3.lt
      have t3 : ∀ W, (ext w3 W).cell? ⟨P, 0, none⟩ = some (.slice A l.length c) := fun W => ((ext_below w3 W).cell (p := ⟨P, 0, none⟩) hXl).trans g3
      have t6 : ∀ W, (ext w3 W).cell? ⟨G, 0, none⟩ = some (.slice A1 x.length x.length) := fun W => ((ext_below w3 W).cell (p := ⟨G, 0, none⟩) hGl).trans g6
      have HS3 := Lib.hid (SlEv.now HS0.out hb03)
      clear hX0 hB2 hX3 hG3 hb03 HW HLV HL0
      go_upto_region 7 with fail
      go_cut [45] from 23 to 60 (fun b W => b = .bool (lateE x l) ∧ Below w3.heap.size w3 W)
      case first =>
        clear g3 g6
        rcases Nat.eq_zero_or_pos x.length with hxn | hxn
        · obtain rfl : x = [] := List.eq_nil_of_length_eq_zero hxn
          have HLT : Hid (lateE [] l = false) := Lib.hid (lateE_nil l)
          clear hxn
          simp only [List.length_nil] at t6 ⊢
          refine wp_region_growV (by kernel_rfl) (by kernel_rfl) ?_
          repeat (refine veil_step (fun K hK => ?_); go_simp; (refine hK _ ?_; clear hK K))
          refine veil_nil ?_
          intro _ hw'
          obtain ⟨W, rfl⟩ := hw'
          go_wp2_with fail
          go_meet
          exact ⟨by rw [HLT.out], ext_below w3 W⟩
        · obtain ⟨p, hp⟩ : ∃ p, x.length = p + 1 := ⟨x.length - 1, by omega⟩
          have d0 : decide ((0 : Int) < (x.length : Int)) = true := decide_eq_true (by omega)
          have d0' : decide (0 < x.length) = true := decide_eq_true hxn
          rcases Nat.eq_zero_or_pos l.length with hln | hln
          · obtain rfl : l = [] := List.eq_nil_of_length_eq_zero hln
            have HLT : Hid (lateE x [] = false) := Lib.hid (lateE_nil2 x)
            clear hln hxn hp
            simp only [List.length_nil] at t3 ⊢
            refine wp_region_growV (by kernel_rfl) (by kernel_rfl) ?_
            repeat (refine veil_step (fun K hK => ?_); go_simp; (refine hK _ ?_; clear hK K))
            refine veil_nil ?_
            intro _ hw'
            obtain ⟨W, rfl⟩ := hw'
            go_wp2_with fail
            go_meet
            exact ⟨by rw [HLT.out], ext_below w3 W⟩
          · obtain ⟨q, hq⟩ : ∃ q, l.length = q + 1 := ⟨l.length - 1, by omega⟩
            obtain ⟨b1, o1, e1, dv1, hA1, hD1, hx1, -, -, -, -, -, -, f1, -⟩ := SlEv.at_ HX3.out (k := p) (by omega)
            obtain ⟨b0, o0, e0, dv0, hA0, hD0, hx0, -, -, -, -, -, -, f0, -⟩ := SlEv.at_ HS3.out (k := 0) (by omega)
            subst hA1 hA0
            rw [Nat.zero_mul, Nat.add_zero] at f0
            have t0 : ∀ W, (ext w3 W).cell? ⟨b0, o0 + 4, none⟩ = some (.int .i64 e0.time) := fun W => ((ext_below w3 W).cell (p := ⟨b0, o0 + 4, none⟩) hD0).trans f0
            have t1 : ∀ W, (ext w3 W).cell? ⟨b1, o1 + p * 6 + 4, none⟩ = some (.int .i64 e1.time) := fun W => ((ext_below w3 W).cell (p := ⟨b1, o1 + p * 6 + 4, none⟩) hD1).trans f1
            have HLT : Hid (lateE x l = decide (e0.time < e1.time)) := Lib.hid (lateE_at hp hx1 hx0)
            generalize hdd : decide (e0.time < e1.time) = dd at *
            have d1 : decide ((0 : Int) < (l.length : Int)) = true := decide_eq_true (by omega)
            have d1' : decide (0 < l.length) = true := decide_eq_true (by omega)
            have d2 : IntKind.i64.wrap ((x.length : Int) - 1) = (x.length : Int) - 1 := i64wrap (by omega)
            have d3 : (0 : Int) ≤ (x.length : Int) - 1 := by omega
            have d4 : (x.length : Int) - 1 < (x.length : Int) := by omega
            have d5 : (0 : Int) < (l.length : Int) := by omega
            have d5n : 0 < l.length := by omega
            have d8 : (1 : Int) ≤ (x.length : Int) := by omega
            have d6 : ((x.length : Int) - 1).toNat = p := by omega
            have d7 : x.length - 1 = p := by omega
            clear hp hq hln hxn f0 f1 hx0 hx1
            refine wp_region_growV (by kernel_rfl) (by kernel_rfl) ?_
            repeat (refine veil_step (fun K hK => ?_); go_simp; (refine hK _ ?_; clear hK K))
            refine veil_nil ?_
            intro _ hw'
            obtain ⟨W, rfl⟩ := hw'
            go_wp2_with fail
            go_meet
            exact ⟨by rw [HLT.out], ext_below w3 W⟩
      case rest =>
        obtain ⟨rfl, hb4⟩ := hcut
        have h3 : P < w3.heap.size := hXl
        have g3' := (hb4.cell (p := ⟨P, 0, none⟩) hXl).trans g3
        have g6' := (hb4.cell (p := ⟨G, 0, none⟩) hGl).trans g6
        have hb04 := HB03.out.trans (hb4.mono HB03.out.size)
        have HB04 := Lib.hid hb04
        have HX4 := Lib.hid (SlEv.now HX3.out hb4)
        have HS4 := Lib.hid (SlEv.now HS3.out hb4)
        clear t3 t6 g3 g6 HS3 HX3 hb04 hb4
        cases hlt : lateE x l
        · by_cases hn : 2000 < x.length + l.length
          · have HF := Lib.hid (fun W (h : Below w.heap.size w W) => append_err (l := l) (r := 5) HSD.out (by unfold appE; rw [if_neg (by simp), if_neg (by rw [HVL.out]; decide), hlt, if_neg (by decide), if_pos hn]) h)
            have z1 : IntKind.i64.wrap ((x.length : Int) + (l.length : Int)) = (x.length : Int) + (l.length : Int) := i64wrap (by omega)
            have z2 : (2000 : Int) < (x.length : Int) + (l.length : Int) := by omega
            clear hlt hn
            go_wp2_with fail
            go_ret2
            exact HF.out _ HB04.out
          · have HLT := Lib.hid hlt
            have HN := Lib.hid hn
            have z1 : IntKind.i64.wrap ((x.length : Int) + (l.length : Int)) = (x.length : Int) + (l.length : Int) := i64wrap (by omega)
            have z2 : ¬ (2000 : Int) < (x.length : Int) + (l.length : Int) := by omega
            have hX := HX4.out
            have hu := HS4.out
            have hln : x.length + l.length < 10000000 := by omega
            clear hlt hn
            go_wp2_with (at_builtin; refine wpList_appendFull rfl (.tmp 53) (.tmp 55) rfl _ _ rfl hX _ rfl hu hln (fun _ h => h) ?_; intro v' w' hO7 hb7; obtain ⟨A7, c7, rfl, _, _, _⟩ := hO7.open_)
            have hlog : IsLog (Lt w'.heap.size) w' (.agg #[.slice A7 (x ++ l).length c7]) (x ++ l) := ⟨_, rfl, hO7⟩
            have hpk := packP_any (x ++ l) _ w' hlog
            rw [List.length_append] at hpk
            have HPK := Lib.hid hpk
            clear hpk
            have HB7 := Lib.hid (HB04.out.trans (hb7.mono HB04.out.size))
            clear hO7 hb7 hlog hu hX
            go_wp2_with fail
            (with_reducible refine HPK.out.mono ?_)
            intro e w8 hr
            have HR := Lib.hid (append_fin HSD.out HVL.out HLT.out HN.out HB7.out hr)
            obtain ⟨v8, rfl, hO8, hb8⟩ := hr
            clear hO8 hb8
            go_wp2_with fail
            go_ret2
            exact HR.out
        · have HF := Lib.hid (fun W (h : Below w.heap.size w W) => append_err (l := l) (r := 24) HSD.out (by unfold appE; rw [if_neg (by simp), if_neg (by rw [HVL.out]; decide), if_pos hlt]) h)
          clear hlt
          go_wp2_with fail
          go_ret2
          exact HF.out _ HB04.out
  · have z1 : (k != 0) = true := by simp [hk]
    have HF := Lib.hid (fun W (h : Below w.heap.size w W) => append_err (l := l) (r := k) HSD.out (by unfold appE; rw [if_pos hk]) h)
    clear hk hown
    go_wp2_with fail
    go_ret2
    exact HF.out _ HB02.out
end Go.Proofs.YtjglmjdfndcmmaaGreat

set_option linter.all false
namespace Go.Proofs.YtjglmjdfndcmmaaGreat
open Go.RowKit
set_option maxHeartbeats 2000000 in
set_option maxRecDepth 100000 in
theorem append_ref (b : List UInt8) (l : List Ev) (u v : Value) (w : World) (hu : SlC (Lt w.heap.size) w u b) (hv : IsLog (Lt w.heap.size) w v l) :
    Calls Tryz.prog 9 #[u, v] w (RetAppend b l w) := by
  have hv0 := hv
  obtain ⟨ev, rfl, hs⟩ := hv
  obtain ⟨A, c, rfl, _, _, hsl⟩ := hs.open_
  have hb0 := bone w (.cells #[.slice A l.length c] 25)
  have hB0 := Blk.new w 25 #[.slice A l.length c]
  have HL0 := Lib.hid hv0
  have HS0 := Lib.hid hs
  have HO := Lib.hid (open_ref u b _ (hu.now hb0))
  obtain ⟨Ab, cb, rfl, _, _, _⟩ := hu.open_
  clear hv0 hs hsl
  go_enter Tryz.func9, Tryz.ntmps9
  go_wp2_with fail
  (with_reducible refine HO.out.mono ?_)
  rintro e w1 ⟨ev1, x, k, rfl, hx, hsaid, hb1⟩
  replace hx := hx.fresh
  obtain ⟨A1, c1, rfl, _, _, _⟩ := hx.open_
  have hx2 := hsaid.len
  have hb2 := bone w1 (.cells #[.slice A1 x.length c1] 25)
  have hB2 := Blk.new w1 25 #[.slice A1 x.length c1]
  have hb01 := hb0.trans (hb1.mono hb0.size)
  have hb02 := hb01.trans (hb2.mono hb01.size)
  have hX0 := (hB0.now hb1).now hb2
  have hown := SlEv.now hx hb2
  go_upto_region 2 with fail
  obtain ⟨w2, hw2⟩ : ∃ w2, w1.alloc (.cells #[.slice A1 x.length c1] 25) = w2 := ⟨_, rfl⟩
  obtain ⟨G, hGG⟩ : ∃ G, w1.heap.size = G := ⟨_, rfl⟩
  obtain ⟨P, hPP⟩ : ∃ P, w.heap.size = P := ⟨_, rfl⟩
  rw [hw2] at hb02 hB2 hX0 hown ⊢
  rw [hGG] at hB2 ⊢
  rw [hPP] at hX0 ⊢
  have HSD := Lib.hid hsaid
  have HB02 := Lib.hid hb02
  have HW := Lib.hid hown
  clear hw2 hGG hPP hb0 hb1 hb2 hb01 hx hsaid HO hB0 hown
  by_cases hk : k = 0
  · subst hk
    have hlv := logValid_ref l _ w2 (HL0.out.now HB02.out)
    have g3 := hX0.c1
    cases hvl : logB l
    · rw [hvl] at hlv
      have HLV := Lib.hid hlv
      have HF := Lib.hid (fun W (h : Below w.heap.size w W) => append_err (l := l) (r := 1) HSD.out (by unfold appE; rw [if_neg (by simp), if_pos hvl]) h)
      clear hlv hvl hX0 hB2
      go_wp2_with fail
      (with_reducible refine HLV.out.mono ?_)
      rintro e w3 ⟨rfl, hb3⟩
      go_wp2_with fail
      go_ret2
      exact HF.out _ (HB02.out.trans (hb3.mono HB02.out.size))
    · rw [hvl] at hlv
      have HLV := Lib.hid hlv
      have hl2 := (log_parts hvl).1
      have HVL := Lib.hid hvl
      clear hlv hvl
      go_wp2_with fail
      (with_reducible refine HLV.out.mono ?_)
      rintro e w3 ⟨rfl, hb3⟩
      have hX3 := hX0.now hb3
      have hG3 := hB2.now hb3
      have g3 := hX3.c1
      have g6 := hG3.c1
      have hb03 := HB02.out.trans (hb3.mono HB02.out.size)
      have HB03 := Lib.hid hb03
      have HX3 := Lib.hid (SlEv.now HW.out hb3)
      have hXl := hX3.lt
      have hGl := hG3.lt
      have t3 : ∀ W, (ext w3 W).cell? ⟨P, 0, none⟩ = some (.slice A l.length c) := fun W => ((ext_below w3 W).cell (p := ⟨P, 0, none⟩) hXl).trans g3
      have t6 : ∀ W, (ext w3 W).cell? ⟨G, 0, none⟩ = some (.slice A1 x.length c1) := fun W => ((ext_below w3 W).cell (p := ⟨G, 0, none⟩) hGl).trans g6
      have HS3 := Lib.hid (SlEv.now HS0.out hb03)
      clear hX0 hB2 hX3 hG3 hb03 HW HLV HL0
      go_upto_region 6 with fail
      go_cut [45] from 19 to 64 (fun b W => b = .bool (lateE x l) ∧ Below w3.heap.size w3 W)
      case first =>
        clear g3 g6
        rcases Nat.eq_zero_or_pos x.length with hxn | hxn
        · obtain rfl : x = [] := List.eq_nil_of_length_eq_zero hxn
          have HLT : Hid (lateE [] l = false) := Lib.hid (lateE_nil l)
          clear hxn
          simp only [List.length_nil] at t6 ⊢
          refine wp_region_growV (by kernel_rfl) (by kernel_rfl) ?_
          repeat (refine veil_step (fun K hK => ?_); go_simp; (refine hK _ ?_; clear hK K))
          refine veil_nil ?_
          intro _ hw'
          obtain ⟨W, rfl⟩ := hw'
          go_wp2_with fail
          go_meet
          exact ⟨by rw [HLT.out], ext_below w3 W⟩
        · obtain ⟨p, hp⟩ : ∃ p, x.length = p + 1 := ⟨x.length - 1, by omega⟩
          have d0 : decide ((0 : Int) < (x.length : Int)) = true := decide_eq_true (by omega)
          have d0' : decide (0 < x.length) = true := decide_eq_true hxn
          rcases Nat.eq_zero_or_pos l.length with hln | hln
          · obtain rfl : l = [] := List.eq_nil_of_length_eq_zero hln
            have HLT : Hid (lateE x [] = false) := Lib.hid (lateE_nil2 x)
            clear hln hxn hp
            simp only [List.length_nil] at t3 ⊢
            refine wp_region_growV (by kernel_rfl) (by kernel_rfl) ?_
            repeat (refine veil_step (fun K hK => ?_); go_simp; (refine hK _ ?_; clear hK K))
            refine veil_nil ?_
            intro _ hw'
            obtain ⟨W, rfl⟩ := hw'
            go_wp2_with fail
            go_meet
            exact ⟨by rw [HLT.out], ext_below w3 W⟩
          · obtain ⟨q, hq⟩ : ∃ q, l.length = q + 1 := ⟨l.length - 1, by omega⟩
            obtain ⟨b1, o1, e1, dv1, hA1, hD1, hx1, -, -, -, -, -, -, f1, -⟩ := SlEv.at_ HX3.out (k := p) (by omega)
            obtain ⟨b0, o0, e0, dv0, hA0, hD0, hx0, -, -, -, -, -, -, f0, -⟩ := SlEv.at_ HS3.out (k := 0) (by omega)
            subst hA1 hA0
            rw [Nat.zero_mul, Nat.add_zero] at f0
            have t0 : ∀ W, (ext w3 W).cell? ⟨b0, o0 + 4, none⟩ = some (.int .i64 e0.time) := fun W => ((ext_below w3 W).cell (p := ⟨b0, o0 + 4, none⟩) hD0).trans f0
            have t1 : ∀ W, (ext w3 W).cell? ⟨b1, o1 + p * 6 + 4, none⟩ = some (.int .i64 e1.time) := fun W => ((ext_below w3 W).cell (p := ⟨b1, o1 + p * 6 + 4, none⟩) hD1).trans f1
            have HLT : Hid (lateE x l = decide (e0.time < e1.time)) := Lib.hid (lateE_at hp hx1 hx0)
            generalize hdd : decide (e0.time < e1.time) = dd at *
            have d1 : decide ((0 : Int) < (l.length : Int)) = true := decide_eq_true (by omega)
            have d1' : decide (0 < l.length) = true := decide_eq_true (by omega)
            have d2 : IntKind.i64.wrap ((x.length : Int) - 1) = (x.length : Int) - 1 := i64wrap (by omega)
            have d3 : (0 : Int) ≤ (x.length : Int) - 1 := by omega
            have d4 : (x.length : Int) - 1 < (x.length : Int) := by omega
            have d5 : (0 : Int) < (l.length : Int) := by omega
            have d5n : 0 < l.length := by omega
            have d8 : (1 : Int) ≤ (x.length : Int) := by omega
            have d6 : ((x.length : Int) - 1).toNat = p := by omega
            have d7 : x.length - 1 = p := by omega
            clear hp hq hln hxn f0 f1 hx0 hx1
            refine wp_region_growV (by kernel_rfl) (by kernel_rfl) ?_
            repeat (refine veil_step (fun K hK => ?_); go_simp; (refine hK _ ?_; clear hK K))
            refine veil_nil ?_
            intro _ hw'
            obtain ⟨W, rfl⟩ := hw'
            go_wp2_with fail
            go_meet
            exact ⟨by rw [HLT.out], ext_below w3 W⟩
      case rest =>
        obtain ⟨rfl, hb4⟩ := hcut
        have hP4 : P < wc.heap.size := Nat.lt_of_lt_of_le hXl hb4.size
        have hG4 : G < wc.heap.size := Nat.lt_of_lt_of_le hGl hb4.size
        have g3' := (hb4.cell (p := ⟨P, 0, none⟩) hXl).trans g3
        have g6' := (hb4.cell (p := ⟨G, 0, none⟩) hGl).trans g6
        have hb04 := HB03.out.trans (hb4.mono HB03.out.size)
        have HB04 := Lib.hid hb04
        have HX4 := Lib.hid (SlEv.now HX3.out hb4)
        have HS4 := Lib.hid (SlEv.now HS3.out hb4)
        clear t3 t6 g3 g6 HS3 HX3 hb04 hb4
        cases hlt : lateE x l
        · by_cases hn : 2000 < x.length + l.length
          · have HF := Lib.hid (fun W (h : Below w.heap.size w W) => append_err (l := l) (r := 5) HSD.out (by unfold appE; rw [if_neg (by simp), if_neg (by rw [HVL.out]; decide), hlt, if_neg (by decide), if_pos hn]) h)
            have z1 : IntKind.i64.wrap ((x.length : Int) + (l.length : Int)) = (x.length : Int) + (l.length : Int) := i64wrap (by omega)
            have z2 : (2000 : Int) < (x.length : Int) + (l.length : Int) := by omega
            clear hlt hn
            go_wp2_with fail
            go_ret2
            exact HF.out _ HB04.out
          · have HLT := Lib.hid hlt
            have HN := Lib.hid hn
            have z1 : IntKind.i64.wrap ((x.length : Int) + (l.length : Int)) = (x.length : Int) + (l.length : Int) := i64wrap (by omega)
            have z2 : ¬ (2000 : Int) < (x.length : Int) + (l.length : Int) := by omega
            have hn1 : ([] : List Ev).length + x.length < 10000000 := by simp; omega
            have hn2 : ([] ++ x).length + l.length < 10000000 := by simp; omega
            clear hlt hn
            go_upto_region 10 with fail
            have HPK : Hid (∀ W A c, IsLog (Lt W.heap.size) W (.agg #[.slice A ([] ++ x ++ l).length c]) ([] ++ x ++ l) → Calls Tryz.prog 29 #[.agg #[.slice A (x.length + l.length) c]] W (RetPack W.heap.size W (packE (x ++ l)))) := Lib.hid (fun W A c h => by
              rw [List.nil_append] at h
              have h2 := packR (x ++ l) _ W h
              rw [List.length_append] at h2
              exact h2)
            go_region_law (first
              | (refine step_appendSt rfl (.tmp 57) (.tmp 59) rfl wc _ _ rfl hs1 _ rfl HS4.out hn2 ?_; intro v2 w7 hs2; obtain ⟨A7, c7, rfl⟩ := hs2.isSlice)
              | (refine step_appendSt rfl (.tmp 54) (.tmp 56) rfl wc _ _ rfl (AppSt.new (by first | exact (bone _ _) | exact (bone _ _).drew) (Blk.new _ _ _)) _ rfl HX4.out hn1 ?_; intro v1 w6 hs1; obtain ⟨A6, c6, rfl⟩ := hs1.isSlice; have k3 := (hs1.1.cell (p := ⟨P, 0, none⟩) hP4).trans g3'; have k6 := (hs1.1.cell (p := ⟨G, 0, none⟩) hG4).trans g6')
              | (go_simp; go_at_call 29; (with_reducible refine (HPK.out _ _ _ hs2.log).mono ?_); intro e w8 hr; have HR := Lib.hid (append_fin HSD.out HVL.out HLT.out HN.out (HB04.out.trans (hs2.1.mono HB04.out.size)) hr); obtain ⟨v8, rfl, hO8, hb8⟩ := hr))
            all_goals
              clear hO8 hb8
              go_wp2_with fail
              go_ret2
              exact HR.out
        · have HF := Lib.hid (fun W (h : Below w.heap.size w W) => append_err (l := l) (r := 24) HSD.out (by unfold appE; rw [if_neg (by simp), if_neg (by rw [HVL.out]; decide), if_pos hlt]) h)
          clear hlt
          go_wp2_with fail
          go_ret2
          exact HF.out _ HB04.out
  · have z1 : (k != 0) = true := by simp [hk]
    have HF := Lib.hid (fun W (h : Below w.heap.size w W) => append_err (l := l) (r := k) HSD.out (by unfold appE; rw [if_pos hk]) h)
    clear hk
    go_wp2_with fail
    go_ret2
    exact HF.out _ HB02.out
end Go.Proofs.YtjglmjdfndcmmaaGreat

set_option linter.all false
namespace Go.Proofs.YtjglmjdfndcmmaaGreat
open Go.RowKit
def YesP (w : World) (x : Ending) (w' : World) : Prop := x = .returned (.bool true) ∧ Below w.heap.size w w'
set_option maxHeartbeats 2000000 in
set_option maxRecDepth 100000 in
theorem archiveAppends_law (bs : List UInt8) (l : List Ev) (ub ul : Value) (w : World) (hu : SlC (Lt w.heap.size) w ub bs) (hl : IsLog (Lt w.heap.size) w ul l) :
    Calls Tryz.prog 3 #[ub, ul] w (YesP w) := by
  have HAW := Lib.hid awake_any
  have HU := Lib.hid hu
  have h0 := hl
  obtain ⟨Ab, cb, rfl, _, _, _⟩ := hu.open_
  obtain ⟨ev, rfl, hs⟩ := hl
  obtain ⟨A, c, rfl, _, _, _⟩ := hs.open_
  have hb1 := bone w (.cells #[.slice A l.length c] 25)
  have hB1 := Blk.new w 25 #[.slice A l.length c]
  have HL := Lib.hid h0
  clear hs h0 hu
  go_enter Tryz.func3, Tryz.ntmps3
  go_wp2_with fail
  (with_reducible refine (HAW.out _).mono ?_)
  rintro e w2 ⟨rfl, hb2⟩
  have hb12 := hb1.trans (hb2.mono hb1.size)
  have hB2 := hB1.now hb2
  have HSH := Lib.hid (short_any _ bs w2 (HU.out.now hb12))
  go_wp2_with fail
  (with_reducible refine HSH.out.mono ?_)
  rintro e w3 ⟨⟨q, rfl⟩, hb3⟩
  have hb13 := hb12.trans (hb3.mono hb12.size)
  have hB3 := hB2.now hb3
  have hc3 := hB3.c1
  clear HSH hB2 hb2 hb3 hb12 hB1 hb1
  cases q
  · go_wp2_with fail
    (with_reducible refine (HAW.out _).mono ?_)
    rintro e w4 ⟨rfl, hb4⟩
    go_wp2_with fail
    go_ret
    exact ⟨rfl, hb13.trans (hb4.mono hb13.size)⟩
  have HSM := Lib.hid (small_any l _ w3 (HL.out.now hb13))
  go_wp2_with fail
  (with_reducible refine HSM.out.mono ?_)
  rintro e w4 ⟨⟨q, rfl⟩, hb4⟩
  have hb14 := hb13.trans (hb4.mono hb13.size)
  have hB4 := hB3.now hb4
  have hc4 := hB4.c1
  clear HSM hB3 hc3 hb13 hb4
  cases q
  · go_wp2_with fail
    (with_reducible refine (HAW.out _).mono ?_)
    rintro e w5 ⟨rfl, hb5⟩
    go_wp2_with fail
    go_ret
    exact ⟨rfl, hb14.trans (hb5.mono hb14.size)⟩
  clear HAW
  have HA := Lib.hid (append_any bs l _ _ w4 (HU.out.now hb14) (HL.out.now hb14))
  go_wp2_with fail
  (with_reducible refine HA.out.mono ?_)
  rintro e w5 ⟨x, k, hsaid, v5, rfl, hO5, hb5⟩
  have HSD := Lib.hid hsaid
  have hb15 := hb14.trans (hb5.mono hb14.size)
  have hB5 := hB4.now hb5
  have hc5 := hB5.c1
  have HB := Lib.hid (append_ref bs l _ _ w5 (HU.out.now hb15) (HL.out.now hb15))
  clear HA hB4 hc4 hb14 hsaid
  obtain ⟨L, r, hLr⟩ : ∃ L r, appE x l k = (L, r) := ⟨_, _, rfl⟩
  rw [hLr] at hO5 ⊢
  have HLR := Lib.hid hLr
  dsimp only at hO5 ⊢
  obtain ⟨A5, c5, rfl⟩ := hO5.isSlice
  have HS5 := Lib.hid hO5.slC
  clear hLr hO5
  go_wp2_with fail
  (with_reducible refine HB.out.mono ?_)
  rintro e w6 ⟨x6, k6, hsaid6, v6, rfl, hO6, hb6⟩
  obtain ⟨hxe, hke⟩ := HSD.out.unique hsaid6
  rw [hxe, hke, HLR.out] at hO6 ⊢
  dsimp only at hO6 ⊢
  obtain ⟨A6, c6, rfl⟩ := hO6.isSlice
  have hE := equal_any _ _ L L w6 (HS5.out.now hb6) hO6.slC
  rw [decide_eq_true rfl] at hE
  have HE := Lib.hid hE
  have hb16 := hb15.trans (hb6.mono hb15.size)
  clear hE hO6 hsaid6 hxe hke hb6 hb15
  go_wp2_with fail
  (with_reducible refine HE.out.mono ?_)
  rintro e w7 ⟨rfl, rfl⟩
  go_wp2_with fail
  go_ret
  exact ⟨by simp, hb16⟩
end Go.Proofs.YtjglmjdfndcmmaaGreat

set_option linter.all false
namespace Go.Proofs.YtjglmjdfndcmmaaGreat
open Go.ChangeShapes Go.WideShapes Go.RowKit Go.Deep
theorem add_lit' (b o n j : Nat) : ((⟨b, o, none⟩ : Addr).add n).add j = ⟨b, o + n + j, none⟩ := by
  rw [add_add']; unfold Addr.add
  by_cases h : n + j = 0
  · have h1 : n = 0 := by omega
    have h2 : j = 0 := by omega
    subst h1 h2; rfl
  · rw [if_neg h]; simp [Nat.add_assoc]
theorem cell_spot {w : World} {a : Addr} {u : Value} (h : w.cell? a = some u) : a = ⟨a.block, a.off, none⟩ ∧ a.block < w.heap.size := by
  obtain ⟨b, o, s⟩ := a
  unfold World.cell? at h
  cases s with
  | none =>
    refine ⟨rfl, ?_⟩
    rcases Nat.lt_or_ge b w.heap.size with h' | h'
    · exact h'
    · simp [Array.getElem?_eq_none h'] at h
  | some s => split at h <;> simp at h
section
variable {H : Type} {enc : TypeId × Value → H} {P : Program} {w : World} {base : Nat} {spare : Nat → Bool} {held : Bool}
theorem Sl.of_trod {α : Type} [Inhabited α] {size : Nat} {R : ElemR α} {t e : TypeId} {fuel : Nat} {v : Value} {x : DataW H × List MemPlace} (ht : P.underlying t = some (.slice e)) (hsz : P.cellsOf e = size) (hs0 : 0 < size)
    (hR : ∀ (fuel' : Nat) (cs : List Value) (y : DataW H × List MemPlace), DataW.trod enc P w base spare held fuel' e cs = some y → ∃ z, R (Lt w.heap.size) w z cs)
    (h : DataW.trod enc P w base spare held fuel t [v] = some x) : ∃ xs, Sl size R (Lt w.heap.size) w v xs := by
  rcases open_slice ht h with ⟨hv, _⟩ | ⟨a, len, cap, m, n, D, Pl, hv, _, hl, hm, hmm, _, hi⟩
  · injection hv with hv; subst hv; exact ⟨[], Sl.none_⟩
  · injection hv with hv
    subst hv
    have hlm : len ≤ m := by rw [hmm]; split <;> omega
    have key : ∀ i, ∃ z : α, i < len → ∃ cs : List Value, cs.length = size ∧ R (Lt w.heap.size) w z cs ∧ ∀ j, j < size → w.cell? ((a.add (i * size)).add j) = cs[j]? := by
      intro i
      by_cases hlt : i < len
      · obtain ⟨cs', hc, htr⟩ := hi i (by omega)
        rw [hsz] at hc
        obtain ⟨z, hz⟩ := hR _ _ _ htr
        obtain ⟨_, hcl, hat⟩ := World.cells?_some hc
        exact ⟨z, fun _ => ⟨cs', hcl, hz, hat⟩⟩
      · exact ⟨default, fun h' => absurd h' hlt⟩
    refine ⟨(List.range len).map fun i => Classical.choose (key i), some a, cap, by simp, by simpa using hl, hm, fun i z hz => ?_⟩
    rw [List.getElem?_map] at hz
    have hlt : i < len := by
      rcases Nat.lt_or_ge i len with h' | h'
      · exact h'
      · rw [List.getElem?_eq_none (by simpa using h')] at hz; simp at hz
    rw [List.getElem?_range hlt] at hz
    injection hz with hz
    obtain ⟨cs, hcl, hr, hat⟩ := Classical.choose_spec (key i) hlt
    obtain ⟨cs0, hcl0, _, hat0⟩ := Classical.choose_spec (key 0) (by omega)
    have h00 := hat0 0 hs0
    have hc0 : cs0[0]? = some (cs0[0]'(by omega)) := List.getElem?_eq_getElem (by omega)
    rw [hc0] at h00
    have ha0 : (a.add (0 * size)).add 0 = a := by simp [Addr.add]
    rw [ha0] at h00
    obtain ⟨ha, hblk⟩ := cell_spot h00
    replace hz : Classical.choose (key i) = z := hz
    rw [hz] at hr
    refine ⟨a.block, a.off, cs, by rw [← ha], hblk, hcl, hr, fun j u hu => ?_⟩
    have hj : j < size := by
      rcases Nat.lt_or_ge j cs.length with h' | h'
      · omega
      · rw [List.getElem?_eq_none h'] at hu; cases hu
    have := hat j hj
    rw [ha, add_lit'] at this
    rw [this, hu]
theorem fit_of_wf {n : Int} (h : (Lit.int .i64 n).wf = true) : Fit n := by
  have h' : decide ((-9223372036854775808 : Int) ≤ n) = true ∧ decide (n ≤ (9223372036854775807 : Int)) = true := by
    rw [← Bool.and_eq_true]; exact h
  unfold Fit
  simpa using h'
theorem SlI.of_trod {t e : TypeId} {fuel : Nat} {v : Value} {x : DataW H × List MemPlace} (ht : P.underlying t = some (.slice e)) (he : P.underlying e = some (.int .i64)) (hc : P.cellsOf e = 1)
    (h : DataW.trod enc P w base spare held fuel t [v] = some x) : ∃ zs, SlI (Lt w.heap.size) w v zs :=
  Sl.of_trod ht hc (by omega) (fun _ cs y hy => by
    obtain ⟨k, e1, e2, e3⟩ := DataW.trod_int he hy
    exact ⟨k, e1, fit_of_wf e3⟩) h
theorem SlS.of_trod {t e : TypeId} {fuel : Nat} {v : Value} {x : DataW H × List MemPlace} (ht : P.underlying t = some (.slice e)) (he : P.underlying e = some .string) (hc : P.cellsOf e = 1)
    (h : DataW.trod enc P w base spare held fuel t [v] = some x) : ∃ zs, SlS (Lt w.heap.size) w v zs :=
  Sl.of_trod ht hc (by omega) (fun _ cs y hy => by
    obtain ⟨k, e1, e2, e3⟩ := DataW.trod_string he hy
    exact ⟨k, e1, e3⟩) h
theorem post_of_below {f : Func} {s : ChangeSpec} {apart fresh handsOn again : Bool} {W W' : World} {args : Array Value} {v : Value} {ds gs : List (DataW H)} {before pa pv : List MemPlace}
    (hW : DataW.Whole enc P f.params.toList s.vars apart W args.toList ds gs before)
    (hres : ∀ (b : Nat) (sp : Nat → Bool) (hd : Bool), DataW.TrodAll enc P W' b sp hd f.resultTypes.toList (v.resultList f.resultTypes.size) (s.fn H (ds ++ gs)).results [])
    (hargs : ∀ sp : Nat → Bool, (∀ p ∈ before, sp p.block = true) → DataW.TrodAll enc P W' 0 sp true f.params.toList args.toList (s.fn H (ds ++ gs)).args pa)
    (hvars : ∀ sp : Nat → Bool, (∀ p ∈ before, sp p.block = true) → DataW.TrodVars enc P W' sp s.vars (s.fn H (ds ++ gs)).vars pv)
    (hps : before = pa ++ pv) (hb : Below W.heap.size W W')
    (hok : ∀ (j : Nat) (t : TypeId) (r : Value), f.resultTypes[j]? = some t → (v.resultList f.resultTypes.size)[j]? = some r → Value.okWide P W' .any 0 t r) :
    s.post enc P f apart fresh handsOn again W args v W' := by
  have hlt : ∀ p ∈ before, p.block < W.heap.size := fun p hp => hW.lt p hp
  have hold : ∀ p ∈ before, (fun b => decide (b < W.heap.size)) p.block = true := fun p hp => by simpa using hlt p hp
  refine ⟨ds, gs, before, [], pa, pv, hW, hres _ _ _, hargs _ hold, hvars _ hold, World.keptBut_mono (fun p hp => ⟨hp, ?_⟩) (hb.frame (· ∈ before)), fun _ => ?_⟩
  · rw [hps, List.mem_append] at hp
    exact Or.inr hp
  · obtain ⟨_, _, _, _, _, hz, hn⟩ := hW
    refine ⟨hok, _, _, ([] ++ pa) ++ pv, ⟨[] ++ pa, pv, trodAll_append (hargs _ (fun _ _ => rfl)) (hres _ _ _), hvars _ (fun _ _ => rfl), rfl, ?_, ?_⟩, ?_⟩
    · intro b off hp
      have hin : MemPlace.cell b off ∈ before := by rw [hps]; simpa using hp
      rw [hb.frozen (hlt _ hin)]
      exact hz b off hin
    · intro ha
      have := hn ha
      rw [hps] at this
      simpa using this
    · intro p hp _
      rw [hps]
      simpa using hp
end
end Go.Proofs.YtjglmjdfndcmmaaGreat

set_option linter.all false
namespace Go.Proofs.YtjglmjdfndcmmaaGreat
open Go.ChangeShapes Go.WideShapes Go.ChangeAt Go.RowKit Go.Deep
theorem own : ownKnob Tryz.prog.godebug = none := by kernel_rfl
theorem laidOut : laidOutB Tryz.prog = true := by kernel_rfl
theorem stays {H : Type} {enc : TypeId × Value → H} {t : TypeId} (hr : Tryz.prog.readableRec t = true) (hrow : t < Tryz.prog.types.size) {W W' : World} {v : Value} {d : DataW H} {ps : List MemPlace} {sp : Nat → Bool}
    (h : DataW.Trod enc Tryz.prog W 0 (fun _ => true) true t v d ps) (hb : Below W.heap.size W W') (hlt : ∀ x ∈ ps, x.block < W.heap.size) (hsp : ∀ x ∈ ps, sp x.block = true) : DataW.Trod enc Tryz.prog W' 0 sp true t v d ps :=
  WideElems.Trod_stays laidOut hr hrow h (fun x hx => hb.same (hlt x hx)) hsp
theorem readLog : Tryz.prog.readableRec 25 = true := by kernel_rfl
theorem rowLog : 25 < Tryz.prog.types.size := of_decide_eq_true (by kernel_rfl)
theorem cellsInt : Tryz.prog.cellsOf 3 = 1 := by kernel_rfl
theorem cellsStr : Tryz.prog.cellsOf 9 = 1 := by kernel_rfl
theorem cellsVal : Tryz.prog.cellsOf 62 = 3 := by kernel_rfl
theorem cellsFld : Tryz.prog.cellsOf 64 = 4 := by kernel_rfl
theorem cellsFlds : Tryz.prog.cellsOf 55 = 1 := by kernel_rfl
theorem cellsEv : Tryz.prog.cellsOf 57 = 6 := by kernel_rfl
theorem cellsEvs : Tryz.prog.cellsOf 23 = 1 := by kernel_rfl
theorem cellsLog : Tryz.prog.cellsOf 25 = 1 := by kernel_rfl
instance : Inhabited Fld := ⟨⟨emptyS, noV⟩⟩
instance : Inhabited Ev := ⟨⟨emptyS, emptyS, emptyS, 0, 0, []⟩⟩
section
variable {H : Type} {enc : TypeId × Value → H} {w : World} {base : Nat} {spare : Nat → Bool} {held : Bool}
theorem trod_struct6 {P : Program} {t : TypeId} {f0 f1 f2 f3 f4 f5 : Field} {fuel : Nat} {cs : List Value} {x : DataW H × List MemPlace} (ht : P.underlying t = some (.struct #[f0, f1, f2, f3, f4, f5])) (h : DataW.trod enc P w base spare held fuel t cs = some x) :
    ∃ y0 y1 y2 y3 y4 y5 n, cs.length = P.cellsOf t ∧ DataW.trod enc P w base spare held n f0.type ((cs.drop f0.offset).take (P.cellsOf f0.type)) = some y0 ∧
      DataW.trod enc P w base spare held n f1.type ((cs.drop f1.offset).take (P.cellsOf f1.type)) = some y1 ∧ DataW.trod enc P w base spare held n f2.type ((cs.drop f2.offset).take (P.cellsOf f2.type)) = some y2 ∧
      DataW.trod enc P w base spare held n f3.type ((cs.drop f3.offset).take (P.cellsOf f3.type)) = some y3 ∧ DataW.trod enc P w base spare held n f4.type ((cs.drop f4.offset).take (P.cellsOf f4.type)) = some y4 ∧
      DataW.trod enc P w base spare held n f5.type ((cs.drop f5.offset).take (P.cellsOf f5.type)) = some y5 := by
  obtain ⟨xs, n, _, rfl, hl, hlen, hf⟩ := DataW.trod_struct ht h
  match xs, hlen with
  | [y0, y1, y2, y3, y4, y5], _ => exact ⟨y0, y1, y2, y3, y4, y5, n, hl, by simpa using hf 0 f0 rfl, by simpa using hf 1 f1 rfl, by simpa using hf 2 f2 rfl, by simpa using hf 3 f3 rfl, by simpa using hf 4 f4 rfl, by simpa using hf 5 f5 rfl⟩
theorem trod_struct1 {P : Program} {t : TypeId} {f0 : Field} {fuel : Nat} {cs : List Value} {x : DataW H × List MemPlace} (ht : P.underlying t = some (.struct #[f0])) (h : DataW.trod enc P w base spare held fuel t cs = some x) :
    ∃ y0 n, cs.length = P.cellsOf t ∧ DataW.trod enc P w base spare held n f0.type ((cs.drop f0.offset).take (P.cellsOf f0.type)) = some y0 := by
  obtain ⟨xs, n, _, rfl, hl, hlen, hf⟩ := DataW.trod_struct ht h
  match xs, hlen with
  | [y0], _ => exact ⟨y0, n, hl, by simpa using hf 0 f0 rfl⟩
theorem trod_struct2 {P : Program} {t : TypeId} {f0 f1 : Field} {fuel : Nat} {cs : List Value} {x : DataW H × List MemPlace} (ht : P.underlying t = some (.struct #[f0, f1])) (h : DataW.trod enc P w base spare held fuel t cs = some x) :
    ∃ y0 y1 n, cs.length = P.cellsOf t ∧ DataW.trod enc P w base spare held n f0.type ((cs.drop f0.offset).take (P.cellsOf f0.type)) = some y0 ∧ DataW.trod enc P w base spare held n f1.type ((cs.drop f1.offset).take (P.cellsOf f1.type)) = some y1 := by
  obtain ⟨xs, n, _, rfl, hl, hlen, hf⟩ := DataW.trod_struct ht h
  match xs, hlen with
  | [y0, y1], _ => exact ⟨y0, y1, n, hl, by simpa using hf 0 f0 rfl, by simpa using hf 1 f1 rfl⟩
theorem trod_struct3r {P : Program} {t : TypeId} {f0 f1 f2 : Field} {fuel : Nat} {cs : List Value} {x : DataW H × List MemPlace} (ht : P.underlying t = some (.struct #[f0, f1, f2])) (h : DataW.trod enc P w base spare held fuel t cs = some x) :
    ∃ y0 y1 y2 n, cs.length = P.cellsOf t ∧ DataW.trod enc P w base spare held n f0.type ((cs.drop f0.offset).take (P.cellsOf f0.type)) = some y0 ∧ DataW.trod enc P w base spare held n f1.type ((cs.drop f1.offset).take (P.cellsOf f1.type)) = some y1 ∧
      DataW.trod enc P w base spare held n f2.type ((cs.drop f2.offset).take (P.cellsOf f2.type)) = some y2 := by
  obtain ⟨xs, n, _, rfl, hl, hlen, hf⟩ := DataW.trod_struct ht h
  match xs, hlen with
  | [y0, y1, y2], _ => exact ⟨y0, y1, y2, n, hl, by simpa using hf 0 f0 rfl, by simpa using hf 1 f1 rfl, by simpa using hf 2 f2 rfl⟩
set_option maxRecDepth 100000 in
theorem valCells_of (fuel : Nat) (cs : List Value) (y : DataW H × List MemPlace) (h : DataW.trod enc Tryz.prog w base spare held fuel 62 cs = some y) : ∃ v, RVal (Lt w.heap.size) w v cs := by
  obtain ⟨y0, y1, y2, n, hl, h0, h1, h2⟩ := trod_struct3r Tryz.underlying62 h
  rw [cellsVal] at hl
  match cs, hl with
  | [c0, c1, c2], _ =>
    simp only [cellsStr, cellsInt, List.drop_zero, List.take_succ_cons, List.take_zero, List.drop_succ_cons] at h0 h1 h2
    obtain ⟨a, e0, _, w0⟩ := DataW.trod_int Tryz.underlying3 h0
    obtain ⟨b, e1, _, w1⟩ := DataW.trod_int Tryz.underlying3 h1
    obtain ⟨s, e2, _, hs⟩ := DataW.trod_string Tryz.underlying9 h2
    injection e0 with e0; injection e1 with e1; injection e2 with e2
    subst e0 e1 e2
    exact ⟨⟨a, b, s⟩, rfl, fit_of_wf w0, fit_of_wf w1, hs⟩
set_option maxRecDepth 100000 in
theorem fldCells_of (fuel : Nat) (cs : List Value) (y : DataW H × List MemPlace) (h : DataW.trod enc Tryz.prog w base spare held fuel 64 cs = some y) : ∃ v, RFld (Lt w.heap.size) w v cs := by
  obtain ⟨y0, y1, n, hl, h0, h1⟩ := trod_struct2 Tryz.underlying64 h
  rw [cellsFld] at hl
  match cs, hl with
  | [c0, c1, c2, c3], _ =>
    simp only [cellsStr, cellsVal, List.drop_zero, List.take_succ_cons, List.take_zero, List.drop_succ_cons] at h0 h1
    obtain ⟨s, e0, _, hs⟩ := DataW.trod_string Tryz.underlying9 h0
    obtain ⟨v, ev, hfv⟩ := valCells_of _ _ _ h1
    injection e0 with e0
    injection ev with e1 ev; injection ev with e2 ev; injection ev with e3 ev
    subst e0 e1 e2 e3
    exact ⟨⟨s, v⟩, rfl, hs, hfv⟩
set_option maxRecDepth 100000 in
theorem evCells_of (fuel : Nat) (cs : List Value) (y : DataW H × List MemPlace) (h : DataW.trod enc Tryz.prog w base spare held fuel 57 cs = some y) : ∃ v, REv (Lt w.heap.size) w v cs := by
  obtain ⟨y0, y1, y2, y3, y4, y5, n, hl, h0, h1, h2, h3, h4, h5⟩ := trod_struct6 Tryz.underlying57 h
  rw [cellsEv] at hl
  match cs, hl with
  | [c0, c1, c2, c3, c4, c5], _ =>
    simp only [cellsStr, cellsInt, cellsFlds, List.drop_zero, List.take_succ_cons, List.take_zero, List.drop_succ_cons] at h0 h1 h2 h3 h4 h5
    obtain ⟨s0, e0, _, hs0⟩ := DataW.trod_string Tryz.underlying9 h0
    obtain ⟨s1, e1, _, hs1⟩ := DataW.trod_string Tryz.underlying9 h1
    obtain ⟨s2, e2, _, hs2⟩ := DataW.trod_string Tryz.underlying9 h2
    obtain ⟨a, e3, _, w3⟩ := DataW.trod_int Tryz.underlying3 h3
    obtain ⟨b, e4, _, w4⟩ := DataW.trod_int Tryz.underlying3 h4
    obtain ⟨zs, hz⟩ := Sl.of_trod (R := RFld) (size := 4) Tryz.underlying55 cellsFld (by omega) fldCells_of h5
    injection e0 with e0; injection e1 with e1; injection e2 with e2; injection e3 with e3; injection e4 with e4
    subst e0 e1 e2 e3 e4
    exact ⟨⟨s0, s1, s2, a, b, zs⟩, c5, rfl, ⟨hs0, hs1, hs2, fit_of_wf w3, fit_of_wf w4⟩, hz⟩
set_option maxRecDepth 100000 in
theorem log_of {r : Go.Reach} {b0 : Nat} {v : Value} {d : DataW H} {p : List MemPlace} (hv : Value.okWide Tryz.prog w r b0 25 v) (h : DataW.Trod enc Tryz.prog w base spare held 25 v d p) : ∃ x : List Ev, IsLog (Lt w.heap.size) w v x := by
  obtain ⟨cs, rfl, hsz⟩ := okWide_struct Tryz.underlying25 hv
  rw [cellsLog] at hsz
  obtain ⟨l⟩ := cs
  match l, hsz with
  | [c0], _ =>
    obtain ⟨fuel, hf⟩ := h
    obtain ⟨y0, n, hl, h0⟩ := trod_struct1 Tryz.underlying25 hf
    simp only [Value.cells, cellsEvs, List.drop_zero, List.take_succ_cons, List.take_zero, List.drop_succ_cons] at h0
    obtain ⟨zs, hz⟩ := Sl.of_trod (R := REv) (size := 6) Tryz.underlying23 cellsEv (by omega) evCells_of h0
    exact ⟨zs, _, rfl, hz⟩
end
end Go.Proofs.YtjglmjdfndcmmaaGreat
