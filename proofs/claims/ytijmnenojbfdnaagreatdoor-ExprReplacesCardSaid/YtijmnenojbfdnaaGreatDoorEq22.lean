/- Texts of this seat, merged. -/
import Derived.Test.YtijmnenojbfdnaaGreatDoorEq01
import Derived.Test.YtijmnenojbfdnaaGreatDoorEq02
import Derived.Test.YtijmnenojbfdnaaGreatDoorEq03
import Derived.Test.YtijmnenojbfdnaaGreatDoorEq04
import Derived.Test.YtijmnenojbfdnaaGreatDoorEq05
import Derived.Test.YtijmnenojbfdnaaGreatDoorEq06
import Derived.Test.YtijmnenojbfdnaaGreatDoorEq07
import Derived.Test.YtijmnenojbfdnaaGreatDoorEq08
import Derived.Test.YtijmnenojbfdnaaGreatDoorEq09
import Derived.Test.YtijmnenojbfdnaaGreatDoorEq10
import Derived.Test.YtijmnenojbfdnaaGreatDoorEq11
import Derived.Test.YtijmnenojbfdnaaGreatDoorEq12
import Derived.Test.YtijmnenojbfdnaaGreatDoorEq13
import Derived.Test.YtijmnenojbfdnaaGreatDoorEq14
import Derived.Test.YtijmnenojbfdnaaGreatDoorEq15
import Derived.Test.YtijmnenojbfdnaaGreatDoorEq21
set_option linter.unusedSimpArgs false
set_option linter.unusedVariables false
namespace Go.Proofs.YtijmnenojbfdnaaGreatDoor
open Go.RowKit
structure Two (g h : Nat) (w w' : World) : Prop where
  os : w'.os = w.os
  tape : w'.tape = w.tape
  output : w'.output = w.output
  size : w.heap.size ≤ w'.heap.size
  block : ∀ k, k < w.heap.size → k ≠ g → k ≠ h → w'.heap[k]? = w.heap[k]?
section
variable {g h : Nat} {a b c w : World}
theorem Two.refl (g h : Nat) (w : World) : Two g h w w := ⟨rfl, rfl, rfl, Nat.le_refl _, fun _ _ _ _ => rfl⟩
theorem Two.trans (x : Two g h a b) (y : Two g h b c) : Two g h a c :=
  ⟨y.os.trans x.os, y.tape.trans x.tape, y.output.trans x.output, Nat.le_trans x.size y.size, fun k hk h1 h2 => (y.block k (Nat.lt_of_lt_of_le hk x.size) h1 h2).trans (x.block k hk h1 h2)⟩
theorem Two.of_below (x : Below a.heap.size a b) : Two g h a b := ⟨x.os, x.tape, x.output, x.size, fun k hk _ _ => x.block k hk⟩
theorem Two.set_g (x : Two g h a b) (i : Nat) (u : Value) : Two g h a (b.setCell ⟨g, i, none⟩ u) :=
  ⟨x.os, x.tape, x.output, by simpa using x.size, fun k hk h1 h2 => (Below.heap_setCell b ⟨g, i, none⟩ u k h1).trans (x.block k hk h1 h2)⟩
theorem Two.set_h (x : Two g h a b) (i : Nat) (u : Value) : Two g h a (b.setCell ⟨h, i, none⟩ u) :=
  ⟨x.os, x.tape, x.output, by simpa using x.size, fun k hk h1 h2 => (Below.heap_setCell b ⟨h, i, none⟩ u k h2).trans (x.block k hk h1 h2)⟩
theorem Two.below {B : Nat} (x : Two g h a b) (hB : B ≤ a.heap.size) (hg : B ≤ g) (hh : B ≤ h) : Below B a b := ⟨x.os, x.tape, x.output, x.size, fun k hk => x.block k (by omega) (by omega) (by omega)⟩
def DT (g h : Nat) (w : World) (b : Nat) : Prop := b < w.heap.size ∧ b ≠ g ∧ b ≠ h
theorem Two.same (x : Two g h a b) : Same (DT g h a) a b := fun k hk => x.block k hk.1 hk.2.1 hk.2.2
theorem DT.up (x : a.heap.size ≤ b.heap.size) : ∀ k, DT g h a k → DT g h b k := fun k hk => ⟨by have := hk.1; omega, hk.2.1, hk.2.2⟩
theorem Sl.notOne {α : Type} {size : Nat} {R : ElemR α} {D : Nat → Prop} {v : Value} {xs : List α} {t : TypeId} {u : Value} (x : Sl size R D w v xs) (hs : 2 ≤ size) (hb : Blk w g t #[u]) (hR : ∀ (D D' : Nat → Prop) x cs, R D w x cs → R D' w x cs) : Sl size R (fun b => D b ∧ b ≠ g) w v xs := by
  obtain ⟨A, c, hv, h1, h2, h3⟩ := x
  refine ⟨A, c, hv, h1, h2, fun i y hy => ?_⟩
  obtain ⟨b, o, cs, hA, hD, hl, hr, hc⟩ := h3 i y hy
  refine ⟨b, o, cs, hA, ⟨hD, ?_⟩, hl, hR _ _ _ _ hr, hc⟩
  intro e
  subst e
  have e1 := hc 1 cs[1] (List.getElem?_eq_getElem (by omega))
  have e2 := hb.cell (o + i * size + 1)
  rw [e1] at e2
  have := (Array.getElem?_eq_some_iff.1 e2.symm).1
  simp at this
end
theorem SlV.two {g h : Nat} {w : World} {v : Value} {xs : List Val} {t t' : TypeId} {u u' : Value} (x : SlV (Lt w.heap.size) w v xs) (hg : Blk w g t #[u]) (hh : Blk w h t' #[u']) : SlV (DT g h w) w v xs := by
  have h1 := Sl.notOne x (by omega) hg (fun _ _ _ _ h => h)
  have h2 := Sl.notOne h1 (by omega) hh (fun _ _ _ _ h => h)
  exact Sl.keep h2 (fun _ _ _ _ _ _ _ _ h => h) (fun b hb => ⟨hb.1.1, hb.1.2, hb.2⟩) (Same.refl _ _)
theorem SlV.lt {g h : Nat} {w : World} {v : Value} {xs : List Val} (x : SlV (DT g h w) w v xs) : SlV (Lt w.heap.size) w v xs := Sl.keep x (fun _ _ _ _ _ _ _ _ h => h) (fun _ hb => hb.1) (Same.refl _ _)
structure Visits (l : List Var) (k : FuncId) (caps : Array Value) (g h : Nat) (q : List Val → Bool) (I : List (List Val) → World → Prop) : Prop where
  enter : ∀ z w, (callFunc k (#[z] ++ caps)).run Tryz.prog w = .ok (.enter k (#[z] ++ caps)) w
  now : ∀ d W W', I d W → Below W.heap.size W W' → I d W'
  one : ∀ d W, I d W → (∃ t a, Blk W g t #[a]) ∧ (∃ t a, Blk W h t #[a])
  step : ∀ d v vv W, I d W → d.length < prodL l → Good l v → SlV (DT g h W) W vv v → Calls Tryz.prog k (#[vv] ++ caps) W fun e W' => e = .returned (.bool (q v)) ∧ I (d ++ [v]) W' ∧ Two g h W W'
theorem each_len (l : List Var) (q : List Val → Bool) : ∀ (f : Nat) (v : List Val), (eachL l q f v).length ≤ f
  | 0, _ => Nat.le_refl _
  | f + 1, v => by
    rw [eachL, List.length_cons]
    split
    · have := each_len l q f (nextV l v).1; omega
    · show 0 + 1 ≤ _; omega
def EachSt (l : List Var) (g h : Nat) (q : List Val → Bool) (I : List (List Val) → World → Prop) (w : World) (R : List (List Val)) (f : Nat) (sv : Value) (m : Bool) (wr : World) : Prop :=
  Two g h w wr ∧ ∃ d, I d wr ∧ (m = true → ∃ v, Good l v ∧ SlV (DT g h wr) wr sv v ∧ prodL l ≤ f + numL l v ∧ d ++ eachL l q f v = R) ∧ (m = false → d = R)
set_option maxHeartbeats 1000000 in
set_option maxRecDepth 100000 in
theorem each_any (l : List Var) (k : FuncId) (caps : Array Value) (g h : Nat) (q : List Val → Bool) (I : List (List Val) → World → Prop) (hV : Visits l k caps g h q I) (uv : Value) (w : World) (B : Nat)
    (hv : varsB l = true) (hB : B ≤ w.heap.size) (hBg : B ≤ g) (hBh : B ≤ h) (hl : SlX (Lt B) w uv l) (hI : I [] w) :
    Calls Tryz.prog 62 #[uv, .func (.func k) #[] caps] w fun e w' => e = .returned (.tuple #[]) ∧ I (eachL l q (prodL l) (firstV l)) w' ∧ Two g h w w' := by
  have h8 := vars_len hv
  have HV := Lib.hid hv
  have HFE : Hid (firstE l = (firstV l, 0)) := by show _ = _; unfold firstE; rw [hv, if_pos rfl]
  have hfe := firstE_any l uv w (Sl.below hl RVar.kept (Below.refl _ _) hB) (by omega)
  rw [HFE.out] at hfe
  have HF := Lib.hid hfe
  have HVI := Lib.hid hV
  have hR : ∃ R, R = eachL l q (prodL l) (firstV l) := ⟨_, rfl⟩
  obtain ⟨R, hR⟩ := hR
  rw [← hR]
  have HR := Lib.hid hR
  clear hfe hR hv hV
  go_enter Tryz.func62, Tryz.ntmps62
  go_wp2_with fail
  (with_reducible refine HF.out.mono ?_)
  rintro e w2 ⟨fv, rfl, hfv, hb2⟩
  have hI2 := HVI.out.now _ _ _ hI hb2
  obtain ⟨⟨t1, a1, hg2⟩, ⟨t2, a2, hh2⟩⟩ := HVI.out.one _ _ hI2
  have hfv2 := hfv.two hg2 hh2
  have hT2 : Two g h w w2 := Two.of_below hb2
  clear hg2 hh2 hfv HF HFE
  go_wp2_with fail
  go_loopg [4, 6] (prodL l) (fun gg vv mv wr => ∃ (f : Nat) (m : Bool) (sv : Value), sv = vv ∧ mv = .bool m ∧ f ≤ gg ∧ f ≤ prodL l ∧ EachSt l g h q I w R f sv m wr)
  case atStart => exact ⟨prodL l, true, _, rfl, rfl, Nat.le_refl _, Nat.le_refl _, hT2, [], hI2, fun _ => ⟨firstV l, first_good HV.out, hfv2, by omega, HR.out.symm⟩, fun e => by cases e⟩
  case round =>
    obtain ⟨f, m, sv, rfl, rfl, hfg, hfp, hT, d, hId, hm1, hm2⟩ := hrel
    clear hfv2 hT2 hI2 hb2
    cases m
    · have hd := hm2 rfl
      subst hd
      go_wp2_with fail
      go_end0
      exact ⟨rfl, hId, hT⟩
    · obtain ⟨v, hgood, hsl, hfu, hdR⟩ := hm1 rfl
      have hlt := hgood.lt
      obtain ⟨f', rfl⟩ : ∃ f', f = f' + 1 := ⟨f - 1, by omega⟩
      have hdl : d.length < prodL l := by
        have h1 := each_len l q (prodL l) (firstV l)
        rw [← HR.out, ← hdR, List.length_append] at h1
        have h2 : 1 ≤ (eachL l q (f' + 1) v).length := by rw [eachL, List.length_cons]; omega
        omega
      have HST := Lib.hid (HVI.out.step d v sv wr hId hdl hgood hsl)
      have HDR : Hid (d ++ (v :: if q v && (nextV l v).2 then eachL l q f' (nextV l v).1 else []) = R) := hdR
      have HNG := Lib.hid (fun hn => next_good hgood hn)
      have HGN := Lib.hid hgood.next
      have eg := HVI.out.enter
      clear hm1 hm2 hdR
      cases hqv : q v
      · rw [hqv] at HST HDR
        have HD2 : Hid (d ++ [v] = R) := HDR.out
        go_wp2_with (go_at_fn k; (with_reducible refine HST.out.mono ?_))
        rintro e w3 ⟨rfl, hI3, hT3⟩
        go_wp2_with fail
        go_end0
        rw [HD2.out] at hI3
        exact ⟨rfl, hI3, hT.trans hT3⟩
      · rw [hqv] at HST HDR
        go_wp2_with (go_at_fn k; (with_reducible refine HST.out.mono ?_))
        rintro e w3 ⟨rfl, hI3, hT3⟩
        have hTw3 := hT.trans hT3
        have hsl3 : SlV (DT g h w3) w3 sv v := Sl.keep hsl (fun _ _ _ _ _ _ _ _ h => h) (DT.up hT3.size) hT3.same
        have hux := Sl.below (Sl.below hl RVar.kept (hTw3.below hB hBg hBh) (Nat.le_refl _)) RVar.kept (Below.refl _ _) (Nat.le_trans hB hTw3.size)
        have hne := nextE_any l v uv sv w3 hux hsl3.lt (by omega)
        rw [HGN.out] at hne
        have HN := Lib.hid hne
        clear hne HGN
        go_wp2_with fail
        (with_reducible refine HN.out.mono ?_)
        rintro e w4 ⟨nv, rfl, hnv, hb4⟩
        have hI4 := HVI.out.now _ _ _ hI3 hb4
        obtain ⟨⟨t1, a1, hg4⟩, ⟨t2, a2, hh4⟩⟩ := HVI.out.one _ _ hI4
        have hnv4 := hnv.two hg4 hh4
        have hTw4 : Two g h w w4 := hTw3.trans (Two.of_below hb4)
        clear hg4 hh4 hnv HN HST
        cases hnx : (nextV l v).2
        · rw [hnx] at HDR
          have HD2 : Hid (d ++ [v] = R) := HDR.out
          go_wp2_with fail
          go_roundg (f')
          case rel => exact ⟨f', false, _, rfl, rfl, Nat.le_refl _, by omega, hTw4, d ++ [v], hI4, fun e => (by cases e), fun _ => HD2.out⟩
          case measure => omega
        · rw [hnx] at HDR
          obtain ⟨hg5, hn5⟩ := HNG.out hnx
          have HD2 : Hid (d ++ [v] ++ eachL l q f' (nextV l v).1 = R) := by show _ = _; rw [List.append_assoc]; exact HDR.out
          have hfu5 : prodL l ≤ f' + numL l (nextV l v).1 := by omega
          have H5 := Lib.hid (And.intro hg5 hfu5)
          clear hg5 hn5 hfu5 hnx
          generalize (nextV l v).1 = v' at *
          go_wp2_with fail
          go_roundg (f')
          case rel => exact ⟨f', true, _, rfl, rfl, Nat.le_refl _, by omega, hTw4, d ++ [v], hI4, fun _ => ⟨v', H5.out.1, hnv4, H5.out.2, HD2.out⟩, fun e => (by cases e)⟩
          case measure => omega
end Go.Proofs.YtijmnenojbfdnaaGreatDoor

namespace Go.Proofs.YtijmnenojbfdnaaGreatDoor
open Go.RowKit
theorem num_yes {n : Int} (h : numB n = true) : numV n = some ⟨2, n, emptyS⟩ := by unfold numV; rw [if_pos h]
theorem num_no {n : Int} (h : numB n = false) : numV n = none := by unfold numV; rw [h]; rfl
set_option maxHeartbeats 400000 in
theorem truth_any (b : Bool) (w : World) : Calls Tryz.prog 81 #[.bool b] w fun e w' => e = .returned (valV (truthV b)) ∧ Below w.heap.size w w' := by
  have hb := bone w (.cells #[.int .i64 0, .int .i64 0, .string ⟨#[]⟩] 25)
  have hB := Blk.new w 25 #[.int .i64 0, .int .i64 0, .string ⟨#[]⟩]
  obtain ⟨x0, x1, x2⟩ := hB.c3
  have k0 := hB.frozen 0
  have k1 := hB.frozen 1
  have k2 := hB.frozen 2
  cases b
  · go_enter Tryz.func81, Tryz.ntmps81
    go_upto_region 1 with fail
    generalize hw1 : w.alloc (.cells #[.int .i64 0, .int .i64 0, .string ⟨#[]⟩] 25) = w1 at *
    clear hw1
    go_wp2_with fail
    obtain ⟨t0, t1, t2⟩ := (hB.set3 (.int .i64 1) (.int .i64 0) (.string ⟨#[]⟩)).c3
    refine bodyPost_ret (v := .agg #[.int .i64 1, .int .i64 0, .string ⟨#[]⟩]) (by simp [results, Tryz.results81, go_sem, t0, t1, t2]) rfl ?_
    exact ⟨rfl, bset3 hb (Nat.le_refl _) _ _ _⟩
  · go_enter Tryz.func81, Tryz.ntmps81
    go_upto_region 1 with fail
    generalize hw1 : w.alloc (.cells #[.int .i64 0, .int .i64 0, .string ⟨#[]⟩] 25) = w1 at *
    clear hw1
    go_wp2_with fail
    obtain ⟨t0, t1, t2⟩ := (hB.set3 (.int .i64 1) (.int .i64 1) (.string ⟨#[]⟩)).c3
    refine bodyPost_ret (v := .agg #[.int .i64 1, .int .i64 1, .string ⟨#[]⟩]) (by simp [results, Tryz.results81, go_sem, t0, t1, t2]) rfl ?_
    exact ⟨rfl, bset3 hb (Nat.le_refl _) _ _ _⟩
def RetO (o : Option Val) (w : World) (e : Ending) (w' : World) : Prop :=
  ∃ v : Val, e = .returned (.tuple #[.agg #[.int .i64 v.kind, .int .i64 v.n, .string v.s], .bool o.isSome]) ∧ (∀ a, o = some a → v = a) ∧ Below w.heap.size w w'
set_option maxHeartbeats 400000 in
theorem enumber_any (n : Int) (w : World) (hn : Fit n) : Calls Tryz.prog 83 #[.int .i64 n] w (RetO (numV n) w) := by
  unfold Fit at hn
  have hb := bone w (.cells #[.int .i64 0, .int .i64 0, .string ⟨#[]⟩] 25)
  have hB := Blk.new w 25 #[.int .i64 0, .int .i64 0, .string ⟨#[]⟩]
  obtain ⟨x0, x1, x2⟩ := hB.c3
  have k0 := hB.frozen 0
  have k1 := hB.frozen 1
  have k2 := hB.frozen 2
  by_cases h1 : -4503599627370496 ≤ n <;> by_cases h2 : n ≤ 4503599627370496
  · have HN := Lib.hid (num_yes (numB_yes h1 h2))
    generalize numV n = r at *
    go_enter Tryz.func83, Tryz.ntmps83
    go_upto_region 1 with fail
    generalize hw1 : w.alloc (.cells #[.int .i64 0, .int .i64 0, .string ⟨#[]⟩] 25) = w1 at *
    clear hw1
    go_wp2_with fail
    obtain ⟨t0, t1, t2⟩ := (hB.set3 (.int .i64 2) (.int .i64 n) (.string ⟨#[]⟩)).c3
    refine bodyPost_ret (v := .tuple #[.agg #[.int .i64 2, .int .i64 n, .string ⟨#[]⟩], .bool true]) (by simp [results, Tryz.results83, go_sem, t0, t1, t2]) rfl ?_
    exact ⟨⟨2, n, ⟨#[]⟩⟩, by rw [HN.out]; rfl, fun a h => (by rw [HN.out] at h; injection h), bset3 hb (Nat.le_refl _) _ _ _⟩
  rotate_left 2
  · exfalso; omega
  all_goals
    have HN := Lib.hid (num_no (numB_no (n := n) (fun h => by omega)))
    generalize numV n = r at *
    try (have h1' : n < -4503599627370496 := by omega)
    try (have h2' : 4503599627370496 < n := by omega)
    try (have d2 : decide (n ≤ 4503599627370496) = false := decide_eq_false (by omega))
    clear h1 h2
    try (have h1 : -4503599627370496 ≤ n := by omega)
    go_enter Tryz.func83, Tryz.ntmps83
    go_upto_region 1 with fail
    generalize hw1 : w.alloc (.cells #[.int .i64 0, .int .i64 0, .string ⟨#[]⟩] 25) = w1 at *
    clear hw1
    go_wp2_with fail
    obtain ⟨t0, t1, t2⟩ := (hB.set3 (.int .i64 2) (.int .i64 n) (.string ⟨#[]⟩)).c3
    refine bodyPost_ret (v := .tuple #[.agg #[.int .i64 2, .int .i64 n, .string ⟨#[]⟩], .bool false]) (by simp [results, Tryz.results83, go_sem, t0, t1, t2]) rfl ?_
    exact ⟨⟨2, n, ⟨#[]⟩⟩, by rw [HN.out]; rfl, fun a h => (by rw [HN.out] at h; cases h), bset3 hb (Nat.le_refl _) _ _ _⟩
theorem RetO.cast {o o' : Option Val} {w w' : World} {e : Ending} (h : o' = o) (k : RetO o w e w') : RetO o' w e w' := by rw [h]; exact k
set_option maxHeartbeats 1000000 in
theorem product_any (a b : Int) (w : World) (ha : -4503599627370496 ≤ a ∧ a ≤ 4503599627370496) (hb0 : -4503599627370496 ≤ b ∧ b ≤ 4503599627370496) :
    Calls Tryz.prog 84 #[.int .i64 a, .int .i64 b] w (RetO (numV (a * b)) w) := by
  have hb := bone w (.cells #[.int .i64 0, .int .i64 0, .string ⟨#[]⟩] 25)
  have hB := Blk.new w 25 #[.int .i64 0, .int .i64 0, .string ⟨#[]⟩]
  go_enter Tryz.func84, Tryz.ntmps84
  go_upto_region 1 with fail
  generalize hw1 : w.alloc (.cells #[.int .i64 0, .int .i64 0, .string ⟨#[]⟩] 25) = w1 at *
  clear hw1
  have HST : Hid (∀ (W : World) (x y z : Value), Below w1.heap.size w1 W →
      (W.frozen? ⟨w.heap.size, 0, none⟩ = false ∧ W.frozen? ⟨w.heap.size, 1, none⟩ = false ∧ W.frozen? ⟨w.heap.size, 2, none⟩ = false) ∧
      Blk (((W.setCell ⟨w.heap.size, 0, none⟩ x).setCell ⟨w.heap.size, 1, none⟩ y).setCell ⟨w.heap.size, 2, none⟩ z) w.heap.size 25 #[x, y, z] ∧
      (W.cell? ⟨w.heap.size, 0, none⟩ = some (.int .i64 0) ∧ W.cell? ⟨w.heap.size, 1, none⟩ = some (.int .i64 0) ∧ W.cell? ⟨w.heap.size, 2, none⟩ = some (.string ⟨#[]⟩)) ∧
      Below w.heap.size w (((W.setCell ⟨w.heap.size, 0, none⟩ x).setCell ⟨w.heap.size, 1, none⟩ y).setCell ⟨w.heap.size, 2, none⟩ z)) :=
    fun W x y z hW => ⟨⟨(hB.now hW).frozen 0, (hB.now hW).frozen 1, (hB.now hW).frozen 2⟩, (hB.now hW).set3 _ _ _, (hB.now hW).c3, bset3 (bthen hb hW) (Nat.le_refl _) _ _ _⟩
  clear hb hB
  by_cases hz : a = 0 ∨ b = 0
  · have e0 : a * b = 0 := by rcases hz with h | h <;> simp [h]
    have HEE : Hid (numV (a * b) = numV 0) := by show _ = _; rw [e0]
    have HZ : Hid (∀ Q : Prop, ((a == 0) = true → Q) → ((a == 0) = false → (b == 0) = true → Q) → Q) := by
      intro Q h1 h2
      by_cases e : a = 0
      · exact h1 (by simp [e])
      · exact h2 (by simp [e]) (by rcases hz with h | h; exact absurd h e; simp [h])
    clear hz e0
    refine HZ.out _ (fun b1 => ?_) (fun b1 b2 => ?_)
    all_goals
      go_wp2_with fail
      refine (enumber_any 0 _ (by unfold Fit; omega)).mono ?_
      rintro e w2 ⟨v, rfl, hv, hb2⟩
      obtain ⟨⟨k0, k1, k2⟩, hS, ⟨y0, y1, y2⟩, hbS⟩ := HST.out _ (.int .i64 v.kind) (.int .i64 v.n) (.string v.s) hb2
      generalize numV 0 = r at *
      go_wp2_with fail
      obtain ⟨t0, t1, t2⟩ := hS.c3
      refine bodyPost_ret (v := .tuple #[.agg #[.int .i64 v.kind, .int .i64 v.n, .string v.s], .bool r.isSome]) (by simp [results, Tryz.results84, go_sem, t0, t1, t2]) rfl ?_
      exact RetO.cast HEE.out ⟨v, rfl, hv, hbS⟩
  · have ha0 : a ≠ 0 := fun h => hz (.inl h)
    have hb1 : b ≠ 0 := fun h => hz (.inr h)
    have b1 : (a == 0) = false := by simp [ha0]
    have b2 : (b == 0) = false := by simp [hb1]
    have hMQ := fun hq => mul_quo (a := a) (b := b) (n := IntKind.i64.wrap (a * b)) hb0 hb1 rfl hq
    have hMF := fun h => mul_fits (a := a) (b := b) hb1 h
    have hwf : -9223372036854775808 ≤ IntKind.i64.wrap (a * b) ∧ IntKind.i64.wrap (a * b) ≤ 9223372036854775807 := by rw [IntKind.wrap_i64]; omega
    generalize hw : IntKind.i64.wrap (a * b) = n at *
    clear hz
    have hbn : ¬ b = -1 ∨ ¬ n = -9223372036854775808 := by
      rcases Classical.em (b = -1) with e | e
      · right
        rw [e, IntWalk.i64_in _ (by omega)] at hw
        omega
      · exact .inl e
    by_cases hq : Int.tdiv n b = a
    · have e := hMQ hq
      have b3 : (Int.tdiv n b != a) = false := by simp [hq]
      have wq : IntKind.i64.wrap (Int.tdiv n b) = Int.tdiv n b := by rw [hq]; exact IntWalk.i64_in _ (by omega)
      have HEE : Hid (numV (a * b) = numV n) := by show _ = _; rw [← e]
      clear hMQ hMF hq e
      go_wp2_with fail
      refine (enumber_any n _ (by unfold Fit; omega)).mono ?_
      rintro e' w2 ⟨v, rfl, hv, hb2⟩
      obtain ⟨⟨k0, k1, k2⟩, hS, ⟨y0, y1, y2⟩, hbS⟩ := HST.out _ (.int .i64 v.kind) (.int .i64 v.n) (.string v.s) hb2
      generalize numV n = r at *
      go_wp2_with fail
      obtain ⟨t0, t1, t2⟩ := hS.c3
      refine bodyPost_ret (v := .tuple #[.agg #[.int .i64 v.kind, .int .i64 v.n, .string v.s], .bool r.isSome]) (by simp [results, Tryz.results84, go_sem, t0, t1, t2]) rfl ?_
      exact RetO.cast HEE.out ⟨v, rfl, hv, hbS⟩
    · have HNO : Hid (numV (a * b) = none) := by
        refine num_no (numB_no (fun h => ?_))
        obtain ⟨e1, e2⟩ := hMF h
        rw [← e1] at e2
        exact hq e2
      have b3 : (Int.tdiv n b != a) = true := by simp [hq]
      have wq : IntKind.i64.wrap (Int.tdiv n b) = Int.tdiv n b := by
        have h1 := Int.natAbs_tdiv_le_natAbs n b
        refine IntWalk.i64_in _ ?_
        rcases hbn with h | h
        · rcases Classical.em (n = -9223372036854775808) with e | e
          · rcases Classical.em (b = 1) with e2 | e2
            · rw [e2, Int.tdiv_one]; omega
            · have h2 : (Int.tdiv n b).natAbs ≤ 4611686018427387904 := by
                rw [Int.natAbs_tdiv]
                exact Nat.le_trans (Nat.div_le_div_left (c := 2) (by omega) (by omega)) (by omega)
              omega
          · omega
        · omega
      clear hMQ hMF hq hbn
      obtain ⟨⟨k0, k1, k2⟩, hS, ⟨y0, y1, y2⟩, hbS⟩ := HST.out _ (.int .i64 0) (.int .i64 0) (.string ⟨#[]⟩) (Below.refl _ _)
      go_wp2_with fail
      obtain ⟨t0, t1, t2⟩ := hS.c3
      refine bodyPost_ret (v := .tuple #[.agg #[.int .i64 0, .int .i64 0, .string ⟨#[]⟩], .bool false]) (by simp [results, Tryz.results84, go_sem, t0, t1, t2]) rfl ?_
      exact ⟨⟨0, 0, ⟨#[]⟩⟩, by rw [HNO.out]; rfl, fun x h => (by rw [HNO.out] at h; cases h), hbS⟩
end Go.Proofs.YtijmnenojbfdnaaGreatDoor

namespace Go.Proofs.YtijmnenojbfdnaaGreatDoor
open Go.RowKit
theorem findV_any (vs : List Var) (s : ByteArray) : findV vs s < 0 ∨ ∃ i : Nat, findV vs s = i ∧ i < vs.length := by
  unfold findV
  cases hf : vs.findIdx? (fun x => x.name.toList == s.toList) with
  | none => left; decide
  | some i =>
    rw [List.findIdx?_eq_some_iff_getElem] at hf
    obtain ⟨h1, _⟩ := hf
    exact .inr ⟨i, rfl, h1⟩
theorem findV_hit {vs : List Var} {s : ByteArray} {j : Nat} {x : Var} (hx : vs[j]? = some x) (h : (x.name.toList == s.toList) = true) (hp : ∀ q y, q < j → vs[q]? = some y → (y.name.toList == s.toList) = false) : findV vs s = j := by
  unfold findV
  have hj : j < vs.length := by
    rcases Nat.lt_or_ge j vs.length with h | h
    · exact h
    · rw [List.getElem?_eq_none h] at hx; cases hx
  rw [List.getElem?_eq_getElem hj] at hx
  injection hx with hx
  have : vs.findIdx? (fun x => x.name.toList == s.toList) = some j := by
    rw [List.findIdx?_eq_some_iff_getElem]
    refine ⟨hj, by rw [hx]; exact h, fun q hq => ?_⟩
    have := hp q vs[q] hq (List.getElem?_eq_getElem (by omega))
    rw [this]; simp
  rw [this]
theorem findV_none {vs : List Var} {s : ByteArray} (hp : ∀ q y, q < vs.length → vs[q]? = some y → (y.name.toList == s.toList) = false) : findV vs s = -1 := by
  unfold findV
  have : vs.findIdx? (fun x => x.name.toList == s.toList) = none := by
    rw [List.findIdx?_eq_none_iff]
    intro x hx
    obtain ⟨q, hq, rfl⟩ := List.mem_iff_getElem.1 hx
    exact hp q _ hq (List.getElem?_eq_getElem hq)
  rw [this]
set_option maxHeartbeats 400000 in
theorem find1_any (x : Var) (g : Nat) (s : ByteArray) (u : Value) (w : World) (h : IsVar (Lt w.heap.size) w u x) (hB : Blk w g 9 #[.string s]) :
    Calls Tryz.prog 129 #[u, .pointer (some ⟨g, 0, none⟩)] w fun e w' => e = .returned (.bool (x.name.toList == s.toList)) ∧ Below w.heap.size w w' := by
  obtain ⟨iv, rfl, h1, h2, h3, h4, h5⟩ := h
  have hb := bone w (.cells #[.string x.name, .int .i64 x.kind, .int .i64 x.low, .int .i64 x.high, iv] 68)
  have hB1 := hB.alloc (.cells #[.string x.name, .int .i64 x.kind, .int .i64 x.low, .int .i64 x.high, iv] 68)
  have c0 := hB1.c1
  go_enter Tryz.func129, Tryz.ntmps129
  go_wp2_with fail
  go_ret
  exact ⟨rfl, hb⟩
set_option maxHeartbeats 1000000 in
theorem indexFind (g : Nat) (s : ByteArray) (tv : Value) (ts : List Var) (w : World) (ht : SlX (Lt w.heap.size) w tv ts) (hB : Blk w g 9 #[.string s]) :
    Calls Tryz.prog 76 #[tv, .func (.func 129) #[] #[.pointer (some ⟨g, 0, none⟩)]] w fun e w' => e = .returned (.int .i64 (findV ts s)) ∧ Below w.heap.size w w' := by
  have eg : ∀ a w, (callFunc 129 #[a, .pointer (some ⟨g, 0, none⟩)]).run Tryz.prog w = .ok (.enter 129 #[a, .pointer (some ⟨g, 0, none⟩)]) w := fun a w => enters_of Tryz.func129 (by kernel_rfl) rfl _ w
  obtain ⟨A, c, rfl, h1, h2, ht⟩ := ht.open_
  go_enter Tryz.func76, Tryz.ntmps76
  go_wp2_with fail
  go_loopw [8] (fun i wr => ∃ j : Nat, j ≤ ts.length ∧ i = .int .i64 j ∧ (∀ q y, q < j → ts[q]? = some y → (y.name.toList == s.toList) = false) ∧ Below w.heap.size w wr) (fun i _ => ts.length - (intOf i).toNat)
  case atStart => exact ⟨0, Nat.zero_le _, rfl, fun q _ h => absurd h (by omega), Below.refl _ _⟩
  case round =>
    obtain ⟨j, hj, rfl, hp, hb⟩ := hrel
    have HP := Lib.hid hp
    clear hp
    by_cases hlt : j < ts.length
    · obtain ⟨b, o, x, iv, rfl, hD, hx, hvar, hiv, c0, c1, c2, c3, c4⟩ := (ht.now hb).at_ hlt
      have hcall := find1_any x g s _ wr hvar (hB.now hb)
      have HX := Lib.hid hx
      clear hx hvar hiv
      generalize hq : (x.name.toList == s.toList) = q at *
      have HQ := Lib.hid hq
      have HC := Lib.hid hcall
      clear hcall hq
      cases q
      · go_wp2_with (go_at_fn 129; refine HC.out.mono ?_; rintro e w' ⟨rfl, hb'⟩)
        go_roundw
        case rel =>
          refine ⟨j + 1, by omega, by go_num, fun q y hq hy => ?_, bthen hb hb'⟩
          by_cases e : q = j
          · subst e; rw [HX.out] at hy; injection hy with hy; subst hy; exact HQ.out
          · exact HP.out q y (by omega) hy
        case measure => simp [intOf]; omega
      · have HF := Lib.hid (findV_hit HX.out HQ.out HP.out)
        go_wp2_with (go_at_fn 129; refine HC.out.mono ?_; rintro e w' ⟨rfl, hb'⟩)
        go_ret
        exact ⟨ret_int HF.out.symm, bthen hb hb'⟩
    · obtain rfl : j = ts.length := by omega
      have HF := Lib.hid (findV_none HP.out)
      go_wp2_with fail
      go_ret
      exact ⟨ret_int HF.out.symm, hb⟩
theorem find_any (vs : List Var) (s : ByteArray) (u : Value) (w : World) (h : SlX (Lt w.heap.size) w u vs) :
    Calls Tryz.prog 80 #[u, .string s] w fun e w' => e = .returned (.int .i64 (findV vs s)) ∧ Below w.heap.size w w' := by
  have hb := bone w (.cells #[.string s] 9)
  have hB := Blk.new w 9 #[.string s]
  have HC := Lib.hid (indexFind w.heap.size s u vs _ (h.now hb) hB)
  clear hB h
  go_enter Tryz.func80, Tryz.ntmps80
  go_wp2_with fail
  refine HC.out.mono ?_
  rintro e w1 ⟨rfl, hb1⟩
  go_wp2_with fail
  go_ret
  exact ⟨rfl, bthen hb hb1⟩
end Go.Proofs.YtijmnenojbfdnaaGreatDoor
