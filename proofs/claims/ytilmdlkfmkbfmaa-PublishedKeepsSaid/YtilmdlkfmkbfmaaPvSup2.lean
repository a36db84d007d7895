/- privacy.Suppress: a round over a map; the closure that looks for what is too great. -/
import Derived.Test.YtilmdlkfmkbfmaaPvSup1
import Derived.Test.YtilmdlkfmkbfmaaPvPub
set_option linter.all false
namespace Go.Proofs.Ytilmdlkfmkbfmaa
open Go.RowKit Go.Maps Go.WideMaps

section
variable {P : Program} {kt : TypeId} {R : Value → Option (DataW Value × List MemPlace)} {w w' : World} {b r n : Nat} {D : DataW Value} {left : Lit → Bool} {cnt : Nat}
theorem ranges_same (h : w.ranges P kt R b r n D left cnt) (hb : w'.heap[b]? = w.heap[b]?) (hr : w'.heap[r]? = w.heap[r]?) : w'.ranges P kt R b r n D left cnt := by
  obtain ⟨es, clock, since, seen, c0, k1, F, hs, hD, k2, rest⟩ := h
  exact ⟨es, clock, since, seen, c0, hb.trans k1, F, hs, hD, hr.trans k2, rest⟩
theorem ranges_iter (h : w.ranges P kt R b r n D left cnt) : ∃ m s e c, w.heap[r]? = some (.mapIter m s e c) := by
  obtain ⟨es, clock, since, seen, c0, k1, F, hs, hD, k2, rest⟩ := h
  exact ⟨_, _, _, _, k2⟩
theorem ranges_map (h : w.ranges P kt R b r n D left cnt) : ∃ es c, w.heap[b]? = some (.map es c) := by
  obtain ⟨es, clock, since, seen, c0, k1, F, hs, hD, k2, rest⟩ := h
  exact ⟨_, _, k1⟩
end
/-- A map under way. -/
structure SupIn (k : Int) (M : Nat) (s : St) (w0 : World) (B0 g q b r n : Nat) (D : DataW Value) (si : St) (ps : List Wd) (ov : Value) (left : Lit → Bool) (cnt : Nat) (bl : Nat → Option Nat) (w : World) : Prop where
  lvl : Lvl k M s si ps
  base : SupB w0 B0 g q (300 * (202 - (M + 1)) + ps.length) si.B si.out ov bl w
  blM : bl M = some b
  rg : w.ranges Try.prog 9 RH b r n D left cnt
  coll : Collected D left (ps.map keyB)
  low : w0.heap.size ≤ r
structure SupD (M : Nat) (s : St) (w0 : World) (B0 : Nat) (D : DataW Value) : Prop where
  keys : ∀ x, has D (.string x) = true ↔ ∃ u : Wd, u.length = M ∧ 0 < cnt s.B u ∧ keyB u = x
  vals : ∀ u : Wd, u.length = M → 0 < cnt s.B u → ∃ sv, (∀ zd, D.atKey (.string (keyB u)) zd = .held (entV sv (cnt s.B u))) ∧ SlS (Lt B0) w0 sv u
section
variable {k : Int} {M : Nat} {s : St} {w0 w w' : World} {B0 g q b r n : Nat} {D : DataW Value} {si : St} {ps : List Wd} {ov : Value} {left : Lit → Bool} {ct : Nat} {bl : Nat → Option Nat}
theorem SupIn.now (h : SupIn k M s w0 B0 g q b r n D si ps ov left ct bl w) (hB : B0 ≤ w0.heap.size) (hb : Below w.heap.size w w') : SupIn k M s w0 B0 g q b r n D si ps ov left ct bl w' :=
  ⟨h.lvl, h.base.now hB hb, h.blM, ranges_same h.rg (hb.block b h.rg.owns.lt) (hb.block r h.rg.lt), h.coll, h.low⟩
/-- An entry comes. -/
theorem SupIn.got (h : SupIn k M s w0 B0 g q b r n D si ps ov left ct bl w) (hD : SupD M s w0 B0 D) {x : List UInt8} {c : Value} {y : DataW Value × List MemPlace} (hlk : left (.string x) = true) (hv : RH c = some y) (hat : ∀ zd, D.atKey (.string x) zd = y.1) :
    ∃ u sv, u.length = M ∧ 0 < cnt s.B u ∧ keyB u = x ∧ u ∉ ps ∧ c = entV sv (cnt s.B u) ∧ SlS (Lt B0) w0 sv u := by
  have hhas : has D (.string x) = true := has_true_of_atKey hat
  obtain ⟨u, h1, h2, h3⟩ := (hD.keys x).1 hhas
  obtain ⟨sv, h4, h5⟩ := hD.vals u h1 h2
  refine ⟨u, sv, h1, h2, h3, fun hm => ?_, ?_, h5⟩
  · have := ((h.coll.2 x).1 (by rw [← h3]; exact List.mem_map.2 ⟨u, hm, rfl⟩)).2
    rw [hlk] at this; cases this
  · unfold RH at hv
    injection hv with hv
    have e1 := hat (.held c)
    rw [← h3, h4, ← hv] at e1
    injection e1 with e1
    exact e1.symm
theorem SupIn.next {x : List UInt8} {cnt' : Nat} (h : SupIn k M s w0 B0 g q b r n D si ps ov left ct bl w) (hB : B0 ≤ w0.heap.size) (hrg : w'.ranges Try.prog 9 RH b r n D (fun z => left z && !z.sameKey (.string x)) cnt') (hg : w.grownBy w' (some r)) : SupB w0 B0 g q (300 * (202 - (M + 1)) + ps.length) si.B si.out ov bl w' :=
  h.base.one hB (ranges_iter h.rg) h.low hg
/-- Its word is published. -/
theorem SupIn.push {u : Wd} {x : List UInt8} {cnt' : Nat} {y : DataW Value} {ov' : Value} {w1 : World} (h : SupIn k M s w0 B0 g q b r n D si ps ov left ct bl w) (hB : B0 ≤ w0.heap.size) (hu : u.length = M) (hp : 0 < cnt s.B u) (hx : keyB u = x) (hnew : u ∉ ps) (hk : k ≤ cnt s.B u)
    (hlk : left (.string x) = true) (hat : ∀ zd, D.atKey (.string x) zd = y)
    (h1 : SupB w0 B0 g q (300 * (202 - (M + 1)) + ps.length) si.B si.out ov bl w1) (hrg : w1.ranges Try.prog 9 RH b r n D (fun z => left z && !z.sameKey (.string x)) cnt')
    (ho : OwnV 62 w' w0.heap.size (Lt B0) ov' (si.out ++ [⟨u, cnt s.B u⟩])) (hg : w1.grownBy w' ov.ownBlock) :
    SupIn k M s w0 B0 g q b r n D ⟨si.out ++ [⟨u, cnt s.B u⟩], si.B⟩ (ps ++ [u]) ov' (fun z => left z && !z.sameKey (.string x)) cnt' bl w' := by
  have hb := h1.push hB ho hg
  obtain ⟨m, se, e, c, hr⟩ := ranges_iter hrg
  obtain ⟨es, cl, hm⟩ := ranges_map hrg
  refine ⟨h.lvl.step_keep hu hp hnew hk, ⟨?_, hb.own, hb.blk, hb.below⟩, h.blM, ranges_same hrg ?_ ?_, ?_, h.low⟩
  · obtain ⟨N, n1, n2⟩ := hb.ws
    exact ⟨N, fun j => Nat.le_trans (n1 j) (by rw [List.length_append]; omega), n2⟩
  · refine hg.block b hrg.owns.lt (fun e => ?_)
    obtain ⟨cur, k1⟩ := own_cells h1.own b e.symm
    rw [hm] at k1; cases k1
  · refine hg.block r hrg.lt (fun e => ?_)
    obtain ⟨cur, k1⟩ := own_cells h1.own r e.symm
    rw [hr] at k1; cases k1
  · rw [List.map_append]
    show Collected D _ (ps.map keyB ++ [keyB u])
    rw [hx]
    exact h.coll.step hlk hat
/-- .. or falls to its beginning. -/
theorem SupIn.fall {u : Wd} {x : List UInt8} {cnt' : Nat} {y : DataW Value} {w1 : World} {N : Nat → Nat} {bl' : Nat → Option Nat} (h : SupIn k M s w0 B0 g q b r n D si ps ov left ct bl w) (hB : B0 ≤ w0.heap.size) (hg0 : w0.heap.size ≤ g) (hgq : g ≠ q) (hu : u.length = M) (hp : 0 < cnt s.B u) (hx : keyB u = x) (hnew : u ∉ ps) (hk : ¬ k ≤ cnt s.B u) (hM : 0 < M) (hM2 : M < 201)
    (hlk : left (.string x) = true) (hat : ∀ zd, D.atKey (.string x) zd = y)
    (h1 : SupB w0 B0 g q (300 * (202 - (M + 1)) + ps.length) si.B si.out ov bl w1) (hrg : w1.ranges Try.prog 9 RH b r n D (fun z => left z && !z.sameKey (.string x)) cnt')
    (n1 : ∀ j, N j ≤ 300 * (202 - (M + 1)) + ps.length) (n2 : WS w1 B0 g N si.B bl) (hr : RetAdd g B0 N si.B bl bl' u.dropLast (cnt s.B u) w1 w') :
    SupIn k M s w0 B0 g q b r n D ⟨si.out, si.B ++ [⟨u.dropLast, cnt s.B u⟩]⟩ (ps ++ [u]) ov (fun z => left z && !z.sameKey (.string x)) cnt' bl' w' := by
  have hul : u.dropLast.length = M - 1 := by rw [List.length_dropLast, hu]
  have hb := h1.add (bl' := bl') hB hg0 hgq (by omega) n1 n2 hr
  have hblM : bl' M = some b := by rw [hr.other M (by omega)]; exact h.blM
  obtain ⟨m, se, e, c, hir⟩ := ranges_iter hrg
  obtain ⟨es, cl, hm⟩ := ranges_map hrg
  obtain ⟨cs, hgc, _⟩ := n2.blk
  refine ⟨h.lvl.step_fall hu hp hnew hk hM, ⟨?_, hb.own, hb.blk, hb.below⟩, hblM, ranges_same hrg ?_ ?_, ?_, h.low⟩
  · obtain ⟨N', k1, k2⟩ := hb.ws
    exact ⟨N', fun j => Nat.le_trans (k1 j) (by rw [List.length_append, List.length_singleton]; omega), k2⟩
  · refine hr.chg.block b hrg.owns.lt (fun e => ?_)
    rcases e with e | e
    · rw [e] at hm
      have := hm.symm.trans hgc
      injection this with this; cases this
    · have := n2.inj _ M b (by omega) (by omega) e h.blM
      omega
  · refine hr.chg.block r hrg.lt (fun e => ?_)
    rcases e with e | e
    · rw [e] at hir
      have := hir.symm.trans hgc
      injection this with this; cases this
    · obtain ⟨es', cl', k1⟩ := n2.map_at (by omega) e
      rw [hir] at k1; cases k1
  · rw [List.map_append]
    show Collected D _ (ps.map keyB ++ [keyB u])
    rw [hx]
    exact h.coll.step hlk hat
/-- .. or is lost. -/
theorem SupIn.lose {u : Wd} {x : List UInt8} {cnt' : Nat} {y : DataW Value} {w1 : World} (h : SupIn k M s w0 B0 g q b r n D si ps ov left ct bl w) (hu : u.length = M) (hp : 0 < cnt s.B u) (hx : keyB u = x) (hnew : u ∉ ps) (hk : ¬ k ≤ cnt s.B u) (hM : ¬ 0 < M)
    (hlk : left (.string x) = true) (hat : ∀ zd, D.atKey (.string x) zd = y)
    (h1 : SupB w0 B0 g q (300 * (202 - (M + 1)) + ps.length) si.B si.out ov bl w1) (hrg : w1.ranges Try.prog 9 RH b r n D (fun z => left z && !z.sameKey (.string x)) cnt') :
    SupIn k M s w0 B0 g q b r n D si (ps ++ [u]) ov (fun z => left z && !z.sameKey (.string x)) cnt' bl w1 := by
  refine ⟨h.lvl.step_lose hu hp hnew hk hM, ⟨?_, h1.own, h1.blk, h1.below⟩, h.blM, hrg, ?_, h.low⟩
  · obtain ⟨N, n1, n2⟩ := h1.ws
    exact ⟨N, fun j => Nat.le_trans (n1 j) (by rw [List.length_append]; omega), n2⟩
  · rw [List.map_append]
    show Collected D _ (ps.map keyB ++ [keyB u])
    rw [hx]
    exact h.coll.step hlk hat
/-- All have come. -/
theorem SupIn.full (h : SupIn k M s w0 B0 g q b r n D si ps ov left ct bl w) (hD : SupD M s w0 B0 D) (hg : Good s) (hl : ∀ kl, left kl = false) : Full M s ps := by
  intro u hu hp
  have hx := (hD.keys (keyB u)).2 ⟨u, hu, hp, rfl⟩
  have := (h.coll.2 (keyB u)).2 ⟨hx, hl _⟩
  obtain ⟨v, hv, e⟩ := List.mem_map.1 this
  have hn := namesIn_of hg.pos hg.names
  have := keyB_inj v u (hn v (h.lvl.mem v hv).2) (hn u hp) e
  rw [← this]; exact hv
end
theorem sup2_any (x : Vr) (sv : Value) (W : World) (hsv : ∃ A n c, sv = .slice A n c) : Calls Try.prog 28 #[.agg #[sv, .int .i64 x.n]] W fun e w' => e = .returned (.bool (decide (1048576 < x.n))) ∧ Below W.heap.size W w' := by
  obtain ⟨A, n, c, rfl⟩ := hsv
  have hb := bone W (.cells #[.slice A n c, .int .i64 x.n] 62)
  obtain ⟨t0, t1⟩ := (Blk.new W 62 #[.slice A n c, .int .i64 x.n]).c2
  go_enter Try.func28, Try.ntmps28
  go_wp2_with fail
  go_ret
  exact ⟨rfl, hb⟩
theorem enters_sup2 : ∀ args w, (callFunc 28 args).run Try.prog w = .ok (.enter 28 args) w := enters_of Try.func28 (by kernel_rfl) rfl
theorem make_maps (w : World) : (Instr.makeSlice 59 (.int .i64 201) (.int .i64 201)).run Try.prog w = .ok (.slice (some ⟨w.heap.size, 0, none⟩) 201 201) (w.alloc (.cells (madeCells #[.map none] 201) 60)) :=
  run_make_n 59 60 (.map none) 8 Try.underlying59 (by kernel_rfl) 201 (by omega) (by omega) rfl w
theorem made_ws (w : World) (B0 : Nat) : WS (w.alloc (.cells (madeCells #[.map none] 201) 60)) B0 w.heap.size (fun _ => 0) [] (fun _ => none) := by
  have hl : (madeCells #[Value.map none] 201).toList = List.replicate 201 (.map none) := toList_madeCells_one _ _
  have hsz : (madeCells #[Value.map none] 201).size = 201 := by rw [← Array.length_toList, hl, List.length_replicate]
  refine ⟨⟨_, Blk.new w _ _, hsz, fun j hj => ?_⟩, fun j hj _ u hu h => ?_, fun j b hj h => (by cases h), fun i j b hi hj h => (by cases h)⟩
  · rw [← Array.getElem?_toList, hl, List.getElem?_replicate, if_pos hj]
  · rw [cnt_nil] at h; omega
end Go.Proofs.Ytilmdlkfmkbfmaa
