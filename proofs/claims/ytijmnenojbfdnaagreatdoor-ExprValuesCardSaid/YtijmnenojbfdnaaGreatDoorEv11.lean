/- Texts of this seat, merged. -/
import Derived.Test.YtijmnenojbfdnaaGreatDoorProg
import Derived.Outline
import Derived.Shelf.Abstract
import Derived.Laws.MakeOwn
import Derived.Laws.Entries
import Derived.Test.YtijmnenojbfdnaaGreatDoorChecked
import Derived.BigQuiet
import Derived.Test.YtijmnenojbfdnaaGreatDoorEv01
import Derived.Test.YtijmnenojbfdnaaGreatDoorEv02
import Derived.Test.YtijmnenojbfdnaaGreatDoorEv03
import Derived.Test.YtijmnenojbfdnaaGreatDoorEv04
import Derived.Test.YtijmnenojbfdnaaGreatDoorEv05
import Derived.Test.YtijmnenojbfdnaaGreatDoorEv06
import Derived.Test.YtijmnenojbfdnaaGreatDoorEv07
import Derived.Test.YtijmnenojbfdnaaGreatDoorEv10
set_option linter.unusedSimpArgs false
set_option linter.unusedVariables false
namespace Go.Proofs.YtijmnenojbfdnaaGreatDoor
open Go.RowKit
structure Two (g h : Nat) (w w' : World) : Prop where
  os : w'.os = w.os
  tape : w'.tape = w.tape
  output : w'.output = w.output
  size : w.heap.size ≤ w'.heap.size
  block : ∀ k, k < w.heap.size → k ≠ g → k ≠ h → w'.heap[k]? = w.heap[k]?
section
variable {g h : Nat} {a b c w : World}
theorem Two.refl (g h : Nat) (w : World) : Two g h w w := ⟨rfl, rfl, rfl, Nat.le_refl _, fun _ _ _ _ => rfl⟩
theorem Two.trans (x : Two g h a b) (y : Two g h b c) : Two g h a c :=
  ⟨y.os.trans x.os, y.tape.trans x.tape, y.output.trans x.output, Nat.le_trans x.size y.size, fun k hk h1 h2 => (y.block k (Nat.lt_of_lt_of_le hk x.size) h1 h2).trans (x.block k hk h1 h2)⟩
theorem Two.of_below (x : Below a.heap.size a b) : Two g h a b := ⟨x.os, x.tape, x.output, x.size, fun k hk _ _ => x.block k hk⟩
theorem Two.set_g (x : Two g h a b) (i : Nat) (u : Value) : Two g h a (b.setCell ⟨g, i, none⟩ u) :=
  ⟨x.os, x.tape, x.output, by simpa using x.size, fun k hk h1 h2 => (Below.heap_setCell b ⟨g, i, none⟩ u k h1).trans (x.block k hk h1 h2)⟩
theorem Two.set_h (x : Two g h a b) (i : Nat) (u : Value) : Two g h a (b.setCell ⟨h, i, none⟩ u) :=
  ⟨x.os, x.tape, x.output, by simpa using x.size, fun k hk h1 h2 => (Below.heap_setCell b ⟨h, i, none⟩ u k h2).trans (x.block k hk h1 h2)⟩
theorem Two.below {B : Nat} (x : Two g h a b) (hB : B ≤ a.heap.size) (hg : B ≤ g) (hh : B ≤ h) : Below B a b := ⟨x.os, x.tape, x.output, x.size, fun k hk => x.block k (by omega) (by omega) (by omega)⟩
def DT (g h : Nat) (w : World) (b : Nat) : Prop := b < w.heap.size ∧ b ≠ g ∧ b ≠ h
theorem Two.same (x : Two g h a b) : Same (DT g h a) a b := fun k hk => x.block k hk.1 hk.2.1 hk.2.2
theorem DT.up (x : a.heap.size ≤ b.heap.size) : ∀ k, DT g h a k → DT g h b k := fun k hk => ⟨by have := hk.1; omega, hk.2.1, hk.2.2⟩
theorem Sl.notOne {α : Type} {size : Nat} {R : ElemR α} {D : Nat → Prop} {v : Value} {xs : List α} {t : TypeId} {u : Value} (x : Sl size R D w v xs) (hs : 2 ≤ size) (hb : Blk w g t #[u]) (hR : ∀ (D D' : Nat → Prop) x cs, R D w x cs → R D' w x cs) : Sl size R (fun b => D b ∧ b ≠ g) w v xs := by
  obtain ⟨A, c, hv, h1, h2, h3⟩ := x
  refine ⟨A, c, hv, h1, h2, fun i y hy => ?_⟩
  obtain ⟨b, o, cs, hA, hD, hl, hr, hc⟩ := h3 i y hy
  refine ⟨b, o, cs, hA, ⟨hD, ?_⟩, hl, hR _ _ _ _ hr, hc⟩
  intro e
  subst e
  have e1 := hc 1 cs[1] (List.getElem?_eq_getElem (by omega))
  have e2 := hb.cell (o + i * size + 1)
  rw [e1] at e2
  have := (Array.getElem?_eq_some_iff.1 e2.symm).1
  simp at this
end
theorem SlV.two {g h : Nat} {w : World} {v : Value} {xs : List Val} {t t' : TypeId} {u u' : Value} (x : SlV (Lt w.heap.size) w v xs) (hg : Blk w g t #[u]) (hh : Blk w h t' #[u']) : SlV (DT g h w) w v xs := by
  have h1 := Sl.notOne x (by omega) hg (fun _ _ _ _ h => h)
  have h2 := Sl.notOne h1 (by omega) hh (fun _ _ _ _ h => h)
  exact Sl.keep h2 (fun _ _ _ _ _ _ _ _ h => h) (fun b hb => ⟨hb.1.1, hb.1.2, hb.2⟩) (Same.refl _ _)
theorem SlV.lt {g h : Nat} {w : World} {v : Value} {xs : List Val} (x : SlV (DT g h w) w v xs) : SlV (Lt w.heap.size) w v xs := Sl.keep x (fun _ _ _ _ _ _ _ _ h => h) (fun _ hb => hb.1) (Same.refl _ _)
structure Visits (l : List Var) (k : FuncId) (caps : Array Value) (g h : Nat) (q : List Val → Bool) (I : List (List Val) → World → Prop) : Prop where
  enter : ∀ z w, (callFunc k (#[z] ++ caps)).run Tryz.prog w = .ok (.enter k (#[z] ++ caps)) w
  now : ∀ d W W', I d W → Below W.heap.size W W' → I d W'
  one : ∀ d W, I d W → (∃ t a, Blk W g t #[a]) ∧ (∃ t a, Blk W h t #[a])
  step : ∀ d v vv W, I d W → d.length < prodL l → Good l v → SlV (DT g h W) W vv v → Calls Tryz.prog k (#[vv] ++ caps) W fun e W' => e = .returned (.bool (q v)) ∧ I (d ++ [v]) W' ∧ Two g h W W'
theorem each_len (l : List Var) (q : List Val → Bool) : ∀ (f : Nat) (v : List Val), (eachL l q f v).length ≤ f
  | 0, _ => Nat.le_refl _
  | f + 1, v => by
    rw [eachL, List.length_cons]
    split
    · have := each_len l q f (nextV l v).1; omega
    · show 0 + 1 ≤ _; omega
def EachSt (l : List Var) (g h : Nat) (q : List Val → Bool) (I : List (List Val) → World → Prop) (w : World) (R : List (List Val)) (f : Nat) (sv : Value) (m : Bool) (wr : World) : Prop :=
  Two g h w wr ∧ ∃ d, I d wr ∧ (m = true → ∃ v, Good l v ∧ SlV (DT g h wr) wr sv v ∧ prodL l ≤ f + numL l v ∧ d ++ eachL l q f v = R) ∧ (m = false → d = R)
set_option maxHeartbeats 1000000 in
set_option maxRecDepth 100000 in
theorem each_any (l : List Var) (k : FuncId) (caps : Array Value) (g h : Nat) (q : List Val → Bool) (I : List (List Val) → World → Prop) (hV : Visits l k caps g h q I) (uv : Value) (w : World) (B : Nat)
    (hv : varsB l = true) (hB : B ≤ w.heap.size) (hBg : B ≤ g) (hBh : B ≤ h) (hl : SlX (Lt B) w uv l) (hI : I [] w) :
    Calls Tryz.prog 62 #[uv, .func (.func k) #[] caps] w fun e w' => e = .returned (.tuple #[]) ∧ I (eachL l q (prodL l) (firstV l)) w' ∧ Two g h w w' := by
  have h8 := vars_len hv
  have HV := Lib.hid hv
  have HFE : Hid (firstE l = (firstV l, 0)) := by show _ = _; unfold firstE; rw [hv, if_pos rfl]
  have hfe := firstE_any l uv w (Sl.below hl RVar.kept (Below.refl _ _) hB) (by omega)
  rw [HFE.out] at hfe
  have HF := Lib.hid hfe
  have HVI := Lib.hid hV
  have hR : ∃ R, R = eachL l q (prodL l) (firstV l) := ⟨_, rfl⟩
  obtain ⟨R, hR⟩ := hR
  rw [← hR]
  have HR := Lib.hid hR
  clear hfe hR hv hV
  go_enter Tryz.func62, Tryz.ntmps62
  go_wp2_with fail
  (with_reducible refine HF.out.mono ?_)
  rintro e w2 ⟨fv, rfl, hfv, hb2⟩
  have hI2 := HVI.out.now _ _ _ hI hb2
  obtain ⟨⟨t1, a1, hg2⟩, ⟨t2, a2, hh2⟩⟩ := HVI.out.one _ _ hI2
  have hfv2 := hfv.two hg2 hh2
  have hT2 : Two g h w w2 := Two.of_below hb2
  clear hg2 hh2 hfv HF HFE
  go_wp2_with fail
  go_loopg [4, 6] (prodL l) (fun gg vv mv wr => ∃ (f : Nat) (m : Bool) (sv : Value), sv = vv ∧ mv = .bool m ∧ f ≤ gg ∧ f ≤ prodL l ∧ EachSt l g h q I w R f sv m wr)
  case atStart => exact ⟨prodL l, true, _, rfl, rfl, Nat.le_refl _, Nat.le_refl _, hT2, [], hI2, fun _ => ⟨firstV l, first_good HV.out, hfv2, by omega, HR.out.symm⟩, fun e => by cases e⟩
  case round =>
    obtain ⟨f, m, sv, rfl, rfl, hfg, hfp, hT, d, hId, hm1, hm2⟩ := hrel
    clear hfv2 hT2 hI2 hb2
    cases m
    · have hd := hm2 rfl
      subst hd
      go_wp2_with fail
      go_end0
      exact ⟨rfl, hId, hT⟩
    · obtain ⟨v, hgood, hsl, hfu, hdR⟩ := hm1 rfl
      have hlt := hgood.lt
      obtain ⟨f', rfl⟩ : ∃ f', f = f' + 1 := ⟨f - 1, by omega⟩
      have hdl : d.length < prodL l := by
        have h1 := each_len l q (prodL l) (firstV l)
        rw [← HR.out, ← hdR, List.length_append] at h1
        have h2 : 1 ≤ (eachL l q (f' + 1) v).length := by rw [eachL, List.length_cons]; omega
        omega
      have HST := Lib.hid (HVI.out.step d v sv wr hId hdl hgood hsl)
      have HDR : Hid (d ++ (v :: if q v && (nextV l v).2 then eachL l q f' (nextV l v).1 else []) = R) := hdR
      have HNG := Lib.hid (fun hn => next_good hgood hn)
      have HGN := Lib.hid hgood.next
      have eg := HVI.out.enter
      clear hm1 hm2 hdR
      cases hqv : q v
      · rw [hqv] at HST HDR
        have HD2 : Hid (d ++ [v] = R) := HDR.out
        go_wp2_with (go_at_fn k; (with_reducible refine HST.out.mono ?_))
        rintro e w3 ⟨rfl, hI3, hT3⟩
        go_wp2_with fail
        go_end0
        rw [HD2.out] at hI3
        exact ⟨rfl, hI3, hT.trans hT3⟩
      · rw [hqv] at HST HDR
        go_wp2_with (go_at_fn k; (with_reducible refine HST.out.mono ?_))
        rintro e w3 ⟨rfl, hI3, hT3⟩
        have hTw3 := hT.trans hT3
        have hsl3 : SlV (DT g h w3) w3 sv v := Sl.keep hsl (fun _ _ _ _ _ _ _ _ h => h) (DT.up hT3.size) hT3.same
        have hux := Sl.below (Sl.below hl RVar.kept (hTw3.below hB hBg hBh) (Nat.le_refl _)) RVar.kept (Below.refl _ _) (Nat.le_trans hB hTw3.size)
        have hne := nextE_any l v uv sv w3 hux hsl3.lt (by omega)
        rw [HGN.out] at hne
        have HN := Lib.hid hne
        clear hne HGN
        go_wp2_with fail
        (with_reducible refine HN.out.mono ?_)
        rintro e w4 ⟨nv, rfl, hnv, hb4⟩
        have hI4 := HVI.out.now _ _ _ hI3 hb4
        obtain ⟨⟨t1, a1, hg4⟩, ⟨t2, a2, hh4⟩⟩ := HVI.out.one _ _ hI4
        have hnv4 := hnv.two hg4 hh4
        have hTw4 : Two g h w w4 := hTw3.trans (Two.of_below hb4)
        clear hg4 hh4 hnv HN HST
        cases hnx : (nextV l v).2
        · rw [hnx] at HDR
          have HD2 : Hid (d ++ [v] = R) := HDR.out
          go_wp2_with fail
          go_roundg (f')
          case rel => exact ⟨f', false, _, rfl, rfl, Nat.le_refl _, by omega, hTw4, d ++ [v], hI4, fun e => (by cases e), fun _ => HD2.out⟩
          case measure => omega
        · rw [hnx] at HDR
          obtain ⟨hg5, hn5⟩ := HNG.out hnx
          have HD2 : Hid (d ++ [v] ++ eachL l q f' (nextV l v).1 = R) := by show _ = _; rw [List.append_assoc]; exact HDR.out
          have hfu5 : prodL l ≤ f' + numL l (nextV l v).1 := by omega
          have H5 := Lib.hid (And.intro hg5 hfu5)
          clear hg5 hn5 hfu5 hnx
          generalize (nextV l v).1 = v' at *
          go_wp2_with fail
          go_roundg (f')
          case rel => exact ⟨f', true, _, rfl, rfl, Nat.le_refl _, by omega, hTw4, d ++ [v], hI4, fun _ => ⟨v', H5.out.1, hnv4, H5.out.2, HD2.out⟩, fun e => (by cases e)⟩
          case measure => omega
end Go.Proofs.YtijmnenojbfdnaaGreatDoor

namespace Go.Proofs.YtijmnenojbfdnaaGreatDoor
open Go.RowKit
theorem num_yes {n : Int} (h : numB n = true) : numV n = some ⟨2, n, emptyS⟩ := by unfold numV; rw [if_pos h]
theorem num_no {n : Int} (h : numB n = false) : numV n = none := by unfold numV; rw [h]; rfl
set_option maxHeartbeats 400000 in
theorem truth_any (b : Bool) (w : World) : Calls Tryz.prog 81 #[.bool b] w fun e w' => e = .returned (valV (truthV b)) ∧ Below w.heap.size w w' := by
  have hb := bone w (.cells #[.int .i64 0, .int .i64 0, .string ⟨#[]⟩] 25)
  have hB := Blk.new w 25 #[.int .i64 0, .int .i64 0, .string ⟨#[]⟩]
  obtain ⟨x0, x1, x2⟩ := hB.c3
  have k0 := hB.frozen 0
  have k1 := hB.frozen 1
  have k2 := hB.frozen 2
  cases b
  · go_enter Tryz.func81, Tryz.ntmps81
    go_upto_region 1 with fail
    generalize hw1 : w.alloc (.cells #[.int .i64 0, .int .i64 0, .string ⟨#[]⟩] 25) = w1 at *
    clear hw1
    go_wp2_with fail
    obtain ⟨t0, t1, t2⟩ := (hB.set3 (.int .i64 1) (.int .i64 0) (.string ⟨#[]⟩)).c3
    refine bodyPost_ret (v := .agg #[.int .i64 1, .int .i64 0, .string ⟨#[]⟩]) (by simp [results, Tryz.results81, go_sem, t0, t1, t2]) rfl ?_
    exact ⟨rfl, bset3 hb (Nat.le_refl _) _ _ _⟩
  · go_enter Tryz.func81, Tryz.ntmps81
    go_upto_region 1 with fail
    generalize hw1 : w.alloc (.cells #[.int .i64 0, .int .i64 0, .string ⟨#[]⟩] 25) = w1 at *
    clear hw1
    go_wp2_with fail
    obtain ⟨t0, t1, t2⟩ := (hB.set3 (.int .i64 1) (.int .i64 1) (.string ⟨#[]⟩)).c3
    refine bodyPost_ret (v := .agg #[.int .i64 1, .int .i64 1, .string ⟨#[]⟩]) (by simp [results, Tryz.results81, go_sem, t0, t1, t2]) rfl ?_
    exact ⟨rfl, bset3 hb (Nat.le_refl _) _ _ _⟩
def RetO (o : Option Val) (w : World) (e : Ending) (w' : World) : Prop :=
  ∃ v : Val, e = .returned (.tuple #[.agg #[.int .i64 v.kind, .int .i64 v.n, .string v.s], .bool o.isSome]) ∧ (∀ a, o = some a → v = a) ∧ Below w.heap.size w w'
set_option maxHeartbeats 400000 in
theorem enumber_any (n : Int) (w : World) (hn : Fit n) : Calls Tryz.prog 83 #[.int .i64 n] w (RetO (numV n) w) := by
  unfold Fit at hn
  have hb := bone w (.cells #[.int .i64 0, .int .i64 0, .string ⟨#[]⟩] 25)
  have hB := Blk.new w 25 #[.int .i64 0, .int .i64 0, .string ⟨#[]⟩]
  obtain ⟨x0, x1, x2⟩ := hB.c3
  have k0 := hB.frozen 0
  have k1 := hB.frozen 1
  have k2 := hB.frozen 2
  by_cases h1 : -4503599627370496 ≤ n <;> by_cases h2 : n ≤ 4503599627370496
  · have HN := Lib.hid (num_yes (numB_yes h1 h2))
    generalize numV n = r at *
    go_enter Tryz.func83, Tryz.ntmps83
    go_upto_region 1 with fail
    generalize hw1 : w.alloc (.cells #[.int .i64 0, .int .i64 0, .string ⟨#[]⟩] 25) = w1 at *
    clear hw1
    go_wp2_with fail
    obtain ⟨t0, t1, t2⟩ := (hB.set3 (.int .i64 2) (.int .i64 n) (.string ⟨#[]⟩)).c3
    refine bodyPost_ret (v := .tuple #[.agg #[.int .i64 2, .int .i64 n, .string ⟨#[]⟩], .bool true]) (by simp [results, Tryz.results83, go_sem, t0, t1, t2]) rfl ?_
    exact ⟨⟨2, n, ⟨#[]⟩⟩, by rw [HN.out]; rfl, fun a h => (by rw [HN.out] at h; injection h), bset3 hb (Nat.le_refl _) _ _ _⟩
  rotate_left 2
  · exfalso; omega
  all_goals
    have HN := Lib.hid (num_no (numB_no (n := n) (fun h => by omega)))
    generalize numV n = r at *
    try (have h1' : n < -4503599627370496 := by omega)
    try (have h2' : 4503599627370496 < n := by omega)
    try (have d2 : decide (n ≤ 4503599627370496) = false := decide_eq_false (by omega))
    clear h1 h2
    try (have h1 : -4503599627370496 ≤ n := by omega)
    go_enter Tryz.func83, Tryz.ntmps83
    go_upto_region 1 with fail
    generalize hw1 : w.alloc (.cells #[.int .i64 0, .int .i64 0, .string ⟨#[]⟩] 25) = w1 at *
    clear hw1
    go_wp2_with fail
    obtain ⟨t0, t1, t2⟩ := (hB.set3 (.int .i64 2) (.int .i64 n) (.string ⟨#[]⟩)).c3
    refine bodyPost_ret (v := .tuple #[.agg #[.int .i64 2, .int .i64 n, .string ⟨#[]⟩], .bool false]) (by simp [results, Tryz.results83, go_sem, t0, t1, t2]) rfl ?_
    exact ⟨⟨2, n, ⟨#[]⟩⟩, by rw [HN.out]; rfl, fun a h => (by rw [HN.out] at h; cases h), bset3 hb (Nat.le_refl _) _ _ _⟩
theorem RetO.cast {o o' : Option Val} {w w' : World} {e : Ending} (h : o' = o) (k : RetO o w e w') : RetO o' w e w' := by rw [h]; exact k
set_option maxHeartbeats 1000000 in
theorem product_any (a b : Int) (w : World) (ha : -4503599627370496 ≤ a ∧ a ≤ 4503599627370496) (hb0 : -4503599627370496 ≤ b ∧ b ≤ 4503599627370496) :
    Calls Tryz.prog 84 #[.int .i64 a, .int .i64 b] w (RetO (numV (a * b)) w) := by
  have hb := bone w (.cells #[.int .i64 0, .int .i64 0, .string ⟨#[]⟩] 25)
  have hB := Blk.new w 25 #[.int .i64 0, .int .i64 0, .string ⟨#[]⟩]
  go_enter Tryz.func84, Tryz.ntmps84
  go_upto_region 1 with fail
  generalize hw1 : w.alloc (.cells #[.int .i64 0, .int .i64 0, .string ⟨#[]⟩] 25) = w1 at *
  clear hw1
  have HST : Hid (∀ (W : World) (x y z : Value), Below w1.heap.size w1 W →
      (W.frozen? ⟨w.heap.size, 0, none⟩ = false ∧ W.frozen? ⟨w.heap.size, 1, none⟩ = false ∧ W.frozen? ⟨w.heap.size, 2, none⟩ = false) ∧
      Blk (((W.setCell ⟨w.heap.size, 0, none⟩ x).setCell ⟨w.heap.size, 1, none⟩ y).setCell ⟨w.heap.size, 2, none⟩ z) w.heap.size 25 #[x, y, z] ∧
      (W.cell? ⟨w.heap.size, 0, none⟩ = some (.int .i64 0) ∧ W.cell? ⟨w.heap.size, 1, none⟩ = some (.int .i64 0) ∧ W.cell? ⟨w.heap.size, 2, none⟩ = some (.string ⟨#[]⟩)) ∧
      Below w.heap.size w (((W.setCell ⟨w.heap.size, 0, none⟩ x).setCell ⟨w.heap.size, 1, none⟩ y).setCell ⟨w.heap.size, 2, none⟩ z)) :=
    fun W x y z hW => ⟨⟨(hB.now hW).frozen 0, (hB.now hW).frozen 1, (hB.now hW).frozen 2⟩, (hB.now hW).set3 _ _ _, (hB.now hW).c3, bset3 (bthen hb hW) (Nat.le_refl _) _ _ _⟩
  clear hb hB
  by_cases hz : a = 0 ∨ b = 0
  · have e0 : a * b = 0 := by rcases hz with h | h <;> simp [h]
    have HEE : Hid (numV (a * b) = numV 0) := by show _ = _; rw [e0]
    have HZ : Hid (∀ Q : Prop, ((a == 0) = true → Q) → ((a == 0) = false → (b == 0) = true → Q) → Q) := by
      intro Q h1 h2
      by_cases e : a = 0
      · exact h1 (by simp [e])
      · exact h2 (by simp [e]) (by rcases hz with h | h; exact absurd h e; simp [h])
    clear hz e0
    refine HZ.out _ (fun b1 => ?_) (fun b1 b2 => ?_)
    all_goals
      go_wp2_with fail
      refine (enumber_any 0 _ (by unfold Fit; omega)).mono ?_
      rintro e w2 ⟨v, rfl, hv, hb2⟩
      obtain ⟨⟨k0, k1, k2⟩, hS, ⟨y0, y1, y2⟩, hbS⟩ := HST.out _ (.int .i64 v.kind) (.int .i64 v.n) (.string v.s) hb2
      generalize numV 0 = r at *
      go_wp2_with fail
      obtain ⟨t0, t1, t2⟩ := hS.c3
      refine bodyPost_ret (v := .tuple #[.agg #[.int .i64 v.kind, .int .i64 v.n, .string v.s], .bool r.isSome]) (by simp [results, Tryz.results84, go_sem, t0, t1, t2]) rfl ?_
      exact RetO.cast HEE.out ⟨v, rfl, hv, hbS⟩
  · have ha0 : a ≠ 0 := fun h => hz (.inl h)
    have hb1 : b ≠ 0 := fun h => hz (.inr h)
    have b1 : (a == 0) = false := by simp [ha0]
    have b2 : (b == 0) = false := by simp [hb1]
    have hMQ := fun hq => mul_quo (a := a) (b := b) (n := IntKind.i64.wrap (a * b)) hb0 hb1 rfl hq
    have hMF := fun h => mul_fits (a := a) (b := b) hb1 h
    have hwf : -9223372036854775808 ≤ IntKind.i64.wrap (a * b) ∧ IntKind.i64.wrap (a * b) ≤ 9223372036854775807 := by rw [IntKind.wrap_i64]; omega
    generalize hw : IntKind.i64.wrap (a * b) = n at *
    clear hz
    have hbn : ¬ b = -1 ∨ ¬ n = -9223372036854775808 := by
      rcases Classical.em (b = -1) with e | e
      · right
        rw [e, IntWalk.i64_in _ (by omega)] at hw
        omega
      · exact .inl e
    by_cases hq : Int.tdiv n b = a
    · have e := hMQ hq
      have b3 : (Int.tdiv n b != a) = false := by simp [hq]
      have wq : IntKind.i64.wrap (Int.tdiv n b) = Int.tdiv n b := by rw [hq]; exact IntWalk.i64_in _ (by omega)
      have HEE : Hid (numV (a * b) = numV n) := by show _ = _; rw [← e]
      clear hMQ hMF hq e
      go_wp2_with fail
      refine (enumber_any n _ (by unfold Fit; omega)).mono ?_
      rintro e' w2 ⟨v, rfl, hv, hb2⟩
      obtain ⟨⟨k0, k1, k2⟩, hS, ⟨y0, y1, y2⟩, hbS⟩ := HST.out _ (.int .i64 v.kind) (.int .i64 v.n) (.string v.s) hb2
      generalize numV n = r at *
      go_wp2_with fail
      obtain ⟨t0, t1, t2⟩ := hS.c3
      refine bodyPost_ret (v := .tuple #[.agg #[.int .i64 v.kind, .int .i64 v.n, .string v.s], .bool r.isSome]) (by simp [results, Tryz.results84, go_sem, t0, t1, t2]) rfl ?_
      exact RetO.cast HEE.out ⟨v, rfl, hv, hbS⟩
    · have HNO : Hid (numV (a * b) = none) := by
        refine num_no (numB_no (fun h => ?_))
        obtain ⟨e1, e2⟩ := hMF h
        rw [← e1] at e2
        exact hq e2
      have b3 : (Int.tdiv n b != a) = true := by simp [hq]
      have wq : IntKind.i64.wrap (Int.tdiv n b) = Int.tdiv n b := by
        have h1 := Int.natAbs_tdiv_le_natAbs n b
        refine IntWalk.i64_in _ ?_
        rcases hbn with h | h
        · rcases Classical.em (n = -9223372036854775808) with e | e
          · rcases Classical.em (b = 1) with e2 | e2
            · rw [e2, Int.tdiv_one]; omega
            · have h2 : (Int.tdiv n b).natAbs ≤ 4611686018427387904 := by
                rw [Int.natAbs_tdiv]
                exact Nat.le_trans (Nat.div_le_div_left (c := 2) (by omega) (by omega)) (by omega)
              omega
          · omega
        · omega
      clear hMQ hMF hq hbn
      obtain ⟨⟨k0, k1, k2⟩, hS, ⟨y0, y1, y2⟩, hbS⟩ := HST.out _ (.int .i64 0) (.int .i64 0) (.string ⟨#[]⟩) (Below.refl _ _)
      go_wp2_with fail
      obtain ⟨t0, t1, t2⟩ := hS.c3
      refine bodyPost_ret (v := .tuple #[.agg #[.int .i64 0, .int .i64 0, .string ⟨#[]⟩], .bool false]) (by simp [results, Tryz.results84, go_sem, t0, t1, t2]) rfl ?_
      exact ⟨⟨0, 0, ⟨#[]⟩⟩, by rw [HNO.out]; rfl, fun x h => (by rw [HNO.out] at h; cases h), hbS⟩
end Go.Proofs.YtijmnenojbfdnaaGreatDoor

namespace Go.Proofs.YtijmnenojbfdnaaGreatDoor
open Go.RowKit
theorem findV_any (vs : List Var) (s : ByteArray) : findV vs s < 0 ∨ ∃ i : Nat, findV vs s = i ∧ i < vs.length := by
  unfold findV
  cases hf : vs.findIdx? (fun x => x.name.toList == s.toList) with
  | none => left; decide
  | some i =>
    rw [List.findIdx?_eq_some_iff_getElem] at hf
    obtain ⟨h1, _⟩ := hf
    exact .inr ⟨i, rfl, h1⟩
theorem findV_hit {vs : List Var} {s : ByteArray} {j : Nat} {x : Var} (hx : vs[j]? = some x) (h : (x.name.toList == s.toList) = true) (hp : ∀ q y, q < j → vs[q]? = some y → (y.name.toList == s.toList) = false) : findV vs s = j := by
  unfold findV
  have hj : j < vs.length := by
    rcases Nat.lt_or_ge j vs.length with h | h
    · exact h
    · rw [List.getElem?_eq_none h] at hx; cases hx
  rw [List.getElem?_eq_getElem hj] at hx
  injection hx with hx
  have : vs.findIdx? (fun x => x.name.toList == s.toList) = some j := by
    rw [List.findIdx?_eq_some_iff_getElem]
    refine ⟨hj, by rw [hx]; exact h, fun q hq => ?_⟩
    have := hp q vs[q] hq (List.getElem?_eq_getElem (by omega))
    rw [this]; simp
  rw [this]
theorem findV_none {vs : List Var} {s : ByteArray} (hp : ∀ q y, q < vs.length → vs[q]? = some y → (y.name.toList == s.toList) = false) : findV vs s = -1 := by
  unfold findV
  have : vs.findIdx? (fun x => x.name.toList == s.toList) = none := by
    rw [List.findIdx?_eq_none_iff]
    intro x hx
    obtain ⟨q, hq, rfl⟩ := List.mem_iff_getElem.1 hx
    exact hp q _ hq (List.getElem?_eq_getElem hq)
  rw [this]
set_option maxHeartbeats 400000 in
theorem find1_any (x : Var) (g : Nat) (s : ByteArray) (u : Value) (w : World) (h : IsVar (Lt w.heap.size) w u x) (hB : Blk w g 9 #[.string s]) :
    Calls Tryz.prog 129 #[u, .pointer (some ⟨g, 0, none⟩)] w fun e w' => e = .returned (.bool (x.name.toList == s.toList)) ∧ Below w.heap.size w w' := by
  obtain ⟨iv, rfl, h1, h2, h3, h4, h5⟩ := h
  have hb := bone w (.cells #[.string x.name, .int .i64 x.kind, .int .i64 x.low, .int .i64 x.high, iv] 68)
  have hB1 := hB.alloc (.cells #[.string x.name, .int .i64 x.kind, .int .i64 x.low, .int .i64 x.high, iv] 68)
  have c0 := hB1.c1
  go_enter Tryz.func129, Tryz.ntmps129
  go_wp2_with fail
  go_ret
  exact ⟨rfl, hb⟩
set_option maxHeartbeats 1000000 in
theorem indexFind (g : Nat) (s : ByteArray) (tv : Value) (ts : List Var) (w : World) (ht : SlX (Lt w.heap.size) w tv ts) (hB : Blk w g 9 #[.string s]) :
    Calls Tryz.prog 76 #[tv, .func (.func 129) #[] #[.pointer (some ⟨g, 0, none⟩)]] w fun e w' => e = .returned (.int .i64 (findV ts s)) ∧ Below w.heap.size w w' := by
  have eg : ∀ a w, (callFunc 129 #[a, .pointer (some ⟨g, 0, none⟩)]).run Tryz.prog w = .ok (.enter 129 #[a, .pointer (some ⟨g, 0, none⟩)]) w := fun a w => enters_of Tryz.func129 (by kernel_rfl) rfl _ w
  obtain ⟨A, c, rfl, h1, h2, ht⟩ := ht.open_
  go_enter Tryz.func76, Tryz.ntmps76
  go_wp2_with fail
  go_loopw [8] (fun i wr => ∃ j : Nat, j ≤ ts.length ∧ i = .int .i64 j ∧ (∀ q y, q < j → ts[q]? = some y → (y.name.toList == s.toList) = false) ∧ Below w.heap.size w wr) (fun i _ => ts.length - (intOf i).toNat)
  case atStart => exact ⟨0, Nat.zero_le _, rfl, fun q _ h => absurd h (by omega), Below.refl _ _⟩
  case round =>
    obtain ⟨j, hj, rfl, hp, hb⟩ := hrel
    have HP := Lib.hid hp
    clear hp
    by_cases hlt : j < ts.length
    · obtain ⟨b, o, x, iv, rfl, hD, hx, hvar, hiv, c0, c1, c2, c3, c4⟩ := (ht.now hb).at_ hlt
      have hcall := find1_any x g s _ wr hvar (hB.now hb)
      have HX := Lib.hid hx
      clear hx hvar hiv
      generalize hq : (x.name.toList == s.toList) = q at *
      have HQ := Lib.hid hq
      have HC := Lib.hid hcall
      clear hcall hq
      cases q
      · go_wp2_with (go_at_fn 129; refine HC.out.mono ?_; rintro e w' ⟨rfl, hb'⟩)
        go_roundw
        case rel =>
          refine ⟨j + 1, by omega, by go_num, fun q y hq hy => ?_, bthen hb hb'⟩
          by_cases e : q = j
          · subst e; rw [HX.out] at hy; injection hy with hy; subst hy; exact HQ.out
          · exact HP.out q y (by omega) hy
        case measure => simp [intOf]; omega
      · have HF := Lib.hid (findV_hit HX.out HQ.out HP.out)
        go_wp2_with (go_at_fn 129; refine HC.out.mono ?_; rintro e w' ⟨rfl, hb'⟩)
        go_ret
        exact ⟨ret_int HF.out.symm, bthen hb hb'⟩
    · obtain rfl : j = ts.length := by omega
      have HF := Lib.hid (findV_none HP.out)
      go_wp2_with fail
      go_ret
      exact ⟨ret_int HF.out.symm, hb⟩
theorem find_any (vs : List Var) (s : ByteArray) (u : Value) (w : World) (h : SlX (Lt w.heap.size) w u vs) :
    Calls Tryz.prog 80 #[u, .string s] w fun e w' => e = .returned (.int .i64 (findV vs s)) ∧ Below w.heap.size w w' := by
  have hb := bone w (.cells #[.string s] 9)
  have hB := Blk.new w 9 #[.string s]
  have HC := Lib.hid (indexFind w.heap.size s u vs _ (h.now hb) hB)
  clear hB h
  go_enter Tryz.func80, Tryz.ntmps80
  go_wp2_with fail
  refine HC.out.mono ?_
  rintro e w1 ⟨rfl, hb1⟩
  go_wp2_with fail
  go_ret
  exact ⟨rfl, bthen hb hb1⟩
set_option maxHeartbeats 400000 in
theorem find_ref (vs : List Var) (s : ByteArray) (u : Value) (w : World) (h : SlX (Lt w.heap.size) w u vs) :
    Calls Tryz.prog 87 #[u, .string s] w fun e w' => e = .returned (.int .i64 (findV vs s)) ∧ w = w' := by
  obtain ⟨A, c, rfl, h1, h2, ht⟩ := h.open_
  go_enter Tryz.func87, Tryz.ntmps87
  go_wp2_with fail
  go_loop [5] (fun i => ∃ j : Nat, j ≤ vs.length ∧ i = .int .i64 j ∧ (∀ q y, q < j → vs[q]? = some y → (y.name.toList == s.toList) = false)) (fun i => vs.length - (intOf i).toNat)
  case atStart => exact ⟨0, Nat.zero_le _, rfl, fun q _ h => absurd h (by omega)⟩
  case round =>
    obtain ⟨j, hj, rfl, hp⟩ := hrel
    have HP := Lib.hid hp
    clear hp
    by_cases hlt : j < vs.length
    · obtain ⟨b, o, x, iv, rfl, hD, hx, hvar, hiv, c0, c1, c2, c3, c4⟩ := ht.at_ hlt
      have HX := Lib.hid hx
      clear hx hvar hiv
      cases hq : (x.name.toList == s.toList)
      · have HQ := Lib.hid hq
        go_wp2_with fail
        go_round
        case rel =>
          refine ⟨j + 1, by omega, by go_num, fun q y hq hy => ?_⟩
          by_cases e : q = j
          · subst e; rw [HX.out] at hy; injection hy with hy; subst hy; exact HQ.out
          · exact HP.out q y (by omega) hy
        case measure => simp [intOf]; omega
      · have HF := Lib.hid (findV_hit HX.out hq HP.out)
        go_wp2_with fail
        go_ret
        exact ⟨ret_int HF.out.symm, rfl⟩
    · obtain rfl : j = vs.length := by omega
      have HF := Lib.hid (findV_none HP.out)
      go_wp2_with fail
      go_ret
      exact ⟨ret_int HF.out.symm, rfl⟩
end Go.Proofs.YtijmnenojbfdnaaGreatDoor

namespace Go.Proofs.YtijmnenojbfdnaaGreatDoor
open Go.RowKit
def Asks1 {α : Type} (k : FuncId) (cap : Array Value) (B : Nat) (w : World) (xs : List α) (IsA : (Nat → Prop) → World → Value → α → Prop) (p : α → Bool) : Prop :=
  ∀ (x : α) (v : Value) (w1 : World), x ∈ xs → Below B w w1 → B ≤ w1.heap.size → IsA (Lt w1.heap.size) w1 v x →
    Calls Tryz.prog k (#[v] ++ cap) w1 fun e w2 => e = .returned (.bool (p x)) ∧ Below w1.heap.size w1 w2
def firstAt {α : Type} (p : α → Bool) (xs : List α) : Int := match xs.findIdx? p with | some i => (i : Int) | none => -1
theorem firstAt_hit {α : Type} (p : α → Bool) (xs : List α) (j : Nat) (x : α) (hx : xs[j]? = some x) (h : p x = true) (hn : ∀ q y, q < j → xs[q]? = some y → p y = false) : firstAt p xs = j := by
  have hj : j < xs.length := by
    rcases Nat.lt_or_ge j xs.length with h | h
    · exact h
    · rw [List.getElem?_eq_none h] at hx; cases hx
  have : xs.findIdx? p = some j := by
    rw [List.findIdx?_eq_some_iff_getElem]
    refine ⟨hj, ?_, fun q hq => ?_⟩
    · rw [List.getElem?_eq_getElem hj] at hx; injection hx with hx; rw [hx]; exact h
    · have := hn q _ hq (List.getElem?_eq_getElem (by omega)); simpa using this
  unfold firstAt; rw [this]
theorem firstAt_miss {α : Type} (p : α → Bool) (xs : List α) (hn : ∀ q y, q < xs.length → xs[q]? = some y → p y = false) : firstAt p xs = -1 := by
  have : xs.findIdx? p = none := by
    rw [List.findIdx?_eq_none_iff]
    intro x hx
    obtain ⟨q, hq, rfl⟩ := List.mem_iff_getElem.1 hx
    exact hn q _ hq (List.getElem?_eq_getElem hq)
  unfold firstAt; rw [this]
theorem firstAt_any {α : Type} (p : α → Bool) (xs : List α) : decide (0 ≤ firstAt p xs) = xs.any p := by
  unfold firstAt
  cases h : xs.findIdx? p with
  | none =>
    rw [List.findIdx?_eq_none_iff] at h
    rw [Bool.eq_iff_iff]
    simp
    exact fun x hx => by have := h x hx; simp [this]
  | some i =>
    rw [List.findIdx?_eq_some_iff_getElem] at h
    obtain ⟨h1, h2, _⟩ := h
    rw [Bool.eq_iff_iff]
    simp
    exact ⟨_, List.getElem_mem h1, h2⟩
def IsI (_ : Nat → Prop) (_ : World) (v : Value) (z : Int) : Prop := v = .int .i64 z ∧ Fit z
set_option maxHeartbeats 400000 in
theorem indexFuncI (k : FuncId) (eg : ∀ args w, (callFunc k args).run Tryz.prog w = .ok (.enter k args) w) (cap : Array Value) (tv : Value) (ts : List Int) (p : Int → Bool) (w : World) (ht : SlI (Lt w.heap.size) w tv ts)
    (hf : Asks1 k cap w.heap.size w ts IsI p) :
    Calls Tryz.prog 170 #[tv, .func (.func k) #[] cap] w fun e w' => e = .returned (.int .i64 (firstAt p ts)) ∧ Below w.heap.size w w' := by
  obtain ⟨A, c, rfl, h1, h2, ht⟩ := ht.open_
  have HF := Lib.hid hf
  clear hf
  go_enter Tryz.func170, Tryz.ntmps170
  go_wp2_with fail
  go_loopw [8] (fun i wr => ∃ j : Nat, j ≤ ts.length ∧ i = .int .i64 j ∧ (∀ q t, q < j → ts[q]? = some t → p t = false) ∧ Below w.heap.size w wr) (fun i _ => ts.length - (intOf i).toNat)
  case atStart => exact ⟨0, Nat.zero_le _, rfl, fun q _ h => absurd h (by omega), Below.refl _ _⟩
  case round =>
    obtain ⟨j, hj, rfl, hp, hb⟩ := hrel
    have hsz := hb.size
    have HP := Lib.hid hp
    clear hp
    by_cases hlt : j < ts.length
    · obtain ⟨b, o, t, rfl, hD, hx, hf, c0⟩ := (ht.below hb hsz).at_ hlt
      have hcall := HF.out t (.int .i64 t) wr (List.mem_of_getElem? hx) hb hsz ⟨rfl, hf⟩
      have HX := Lib.hid hx
      clear hx
      cases hq : p t with
      | true =>
        rw [hq] at hcall
        have HC := Lib.hid hcall
        have HQ := Lib.hid hq
        clear hcall hq
        go_wp2_with (go_at_fn k; refine HC.out.mono ?_; rintro e w' ⟨rfl, hb'⟩)
        go_ret
        exact ⟨ret_int (firstAt_hit p ts j t HX.out HQ.out HP.out).symm, below_step hb hb' hsz⟩
      | false =>
        rw [hq] at hcall
        have HC := Lib.hid hcall
        have HQ := Lib.hid hq
        clear hcall hq
        go_wp2_with (go_at_fn k; refine HC.out.mono ?_; rintro e w' ⟨rfl, hb'⟩)
        go_roundw
        case rel =>
          refine ⟨j + 1, by omega, by go_num, fun q y hq hy => ?_, below_step hb hb' hsz⟩
          by_cases e : q = j
          · subst e; rw [HX.out] at hy; injection hy with hy; subst hy; exact HQ.out
          · exact HP.out q y (by omega) hy
        case measure => simp [intOf]; omega
    · go_wp2_with fail
      go_ret
      exact ⟨ret_int (firstAt_miss p ts (fun q y hq hy => HP.out q y (by omega) hy)).symm, hb⟩
set_option maxHeartbeats 400000 in
theorem containsFuncI (k : FuncId) (eg : ∀ args w, (callFunc k args).run Tryz.prog w = .ok (.enter k args) w) (cap : Array Value) (tv : Value) (ts : List Int) (p : Int → Bool) (w : World) (ht : SlI (Lt w.heap.size) w tv ts)
    (hf : Asks1 k cap w.heap.size w ts IsI p) :
    Calls Tryz.prog 127 #[tv, .func (.func k) #[] cap] w fun e w' => e = .returned (.bool (ts.any p)) ∧ Below w.heap.size w w' := by
  have HC := Lib.hid (indexFuncI k eg cap tv ts p w ht hf)
  have HE := Lib.hid (firstAt_any p ts)
  clear hf ht
  generalize firstAt p ts = r at HC HE
  go_enter Tryz.func127, Tryz.ntmps127
  go_wp2_with (go_at_call 170; refine HC.out.mono ?_; rintro e w' ⟨rfl, hb'⟩)
  go_ret
  exact ⟨ret_bool HE.out, hb'⟩
end Go.Proofs.YtijmnenojbfdnaaGreatDoor

namespace Go.Proofs.YtijmnenojbfdnaaGreatDoor
open Go.RowKit
def OwnF {α : Type} (f : α → Value) (w : World) (base t g cap : Nat) (xs : List α) : Prop :=
  w.ownsRow base t 1 (.slice (some ⟨g, 0, none⟩) xs.length cap) xs.length (xs.map f) ∧ g < w.heap.size ∧ base ≤ g
section
variable {α : Type} {f : α → Value} {w w' : World} {base t g cap : Nat} {xs : List α}
theorem OwnF.cell (h : OwnF f w base t g cap xs) {k : Nat} {x : α} (hx : xs[k]? = some x) : w.cell? ⟨g, k, none⟩ = some (f x) := by
  have hk : k < xs.length := by
    rcases Nat.lt_or_ge k xs.length with h | h
    · exact h
    · rw [List.getElem?_eq_none h] at hx; cases hx
  rw [h.1.cellAt k (by omega)]; simp [hx]
theorem OwnF.frozen (h : OwnF f w base t g cap xs) (k : Nat) : w.frozen? ⟨g, k, none⟩ = false := h.1.frozenAt k
theorem OwnF.set_ (h : OwnF f w base t g cap xs) (k : Nat) (x : α) : OwnF f (w.setCell ⟨g, k, none⟩ (f x)) base t g cap (xs.set k x) := by
  refine ⟨?_, by simpa using h.2.1, h.2.2⟩
  have := (h.1.stored k (f x)).1
  rw [List.length_set, List.map_set]
  exact this
theorem OwnF.now (h : OwnF f w base t g cap xs) (hb : Below w.heap.size w w') : OwnF f w' base t g cap xs := ⟨own_now h.1 hb, Nat.lt_of_lt_of_le h.2.1 hb.size, h.2.2⟩
theorem OwnF.drew (h : OwnF f w base t g cap xs) : OwnF f w.drew base t g cap xs := h
theorem OwnF.drewN (h : OwnF f w base t g cap xs) (n : Nat) : OwnF f (w.drewN n) base t g cap xs := h
theorem OwnF.far (h : OwnF f w base t g cap xs) {p : Addr} (hp : p.block ≠ g) (u : Value) : OwnF f (w.setCell p u) base t g cap xs :=
  ⟨ownsRow_setCell_other h.1 (fun e => by injection e with e; exact hp e.symm) u, by simpa using h.2.1, h.2.2⟩
theorem OwnF.lt (h : OwnF f w base t g cap xs) : g < w.heap.size := h.2.1
theorem OwnF.mono {base' : Nat} (h : OwnF f w base t g cap xs) (hb : base' ≤ base) : OwnF f w base' t g cap xs := by
  refine ⟨⟨h.1.1, ?_⟩, h.2.1, Nat.le_trans hb h.2.2⟩
  rcases h.1.2 with h' | ⟨g', c', cur, e, h1, h2⟩
  · exact .inl h'
  · exact .inr ⟨g', c', cur, e, Nat.le_trans hb h1, h2⟩
theorem OwnF.made (w : World) (t n : Nat) (z : α) (hn : n ≤ maxLen) : OwnF f (w.alloc (.cells (madeCells #[f z] n) t)) w.heap.size t w.heap.size n (List.replicate n z) := by
  have hs : (madeCells #[f z] n).size = n * 1 := by simp [madeCells]
  have := World.ownsRow_lit (base := w.heap.size) (e := t) (size := 1) w (madeCells #[f z] n) n (Nat.le_refl _) hn hs
  refine ⟨?_, by simp, Nat.le_refl _⟩
  rw [List.length_replicate, List.map_replicate]
  rw [toList_madeCells_one] at this
  exact this
end
end Go.Proofs.YtijmnenojbfdnaaGreatDoor

namespace Go.Proofs.YtijmnenojbfdnaaGreatDoor
open Go.RowKit
theorem intInfo : (Tryz.prog.info? 3).map (fun i => (i.zero, i.size, i.bytes)) = some (some (.int .i64 0), 1, 8) := by kernel_rfl
theorem appInts : AppInfo Tryz.prog 148 3 1 := AppInfo.mk' Tryz.underlying148 (by kernel_rfl) (bytes := 8) (z := .int .i64 0) (by omega) rfl (by omega)
end Go.Proofs.YtijmnenojbfdnaaGreatDoor

namespace Go.Proofs.YtijmnenojbfdnaaGreatDoor
open Go.RowKit
theorem run_make_cap {P : Program} (t e : TypeId) (z : Value) (bytes : Nat) (ht : P.underlying t = some (.slice e)) (hi : (P.info? e).map (fun i => (i.zero, i.size, i.bytes)) = some (some z, 1, bytes)) (n : Nat) (hn : n ≤ 10000000) (hb : bytes ≤ 4096) (hzc : z.cells = #[z]) (w : World) :
    (Instr.makeSlice t (.int .i64 0) (.int .i64 (n : Int))).run P w = .ok (.slice (some ⟨w.heap.size, 0, none⟩) 0 n) (w.alloc (.cells (madeCells #[z] n) e)) := by
  obtain ⟨i, hi, hz, hs, hby⟩ := info_parts hi
  have hb' : (i.bytes : Int) * (n : Int) ≤ 281474976710656 := by
    have h1 : i.bytes * n ≤ 4096 * 10000000 := Nat.mul_le_mul (by omega) hn
    have h : ((i.bytes * n : Nat) : Int) ≤ 281474976710656 := by omega
    rwa [Int.natCast_mul] at h
  have hr := run_make (P := P) w t e i z ht hi hz .i64 .i64 0 n (by omega) (by omega) hb' (by omega)
  simp only [Int.toNat_natCast] at hr
  rw [hs, hzc, Nat.mul_one] at hr
  exact hr
theorem own_room (w : World) (t n : Nat) (hn : n ≤ maxLen) : (w.alloc (.cells (madeCells #[.int .i64 0] n) t)).ownsRow w.heap.size t 1 (.slice (some ⟨w.heap.size, 0, none⟩) 0 n) 0 [] :=
  ⟨rfl, .inr ⟨w.heap.size, n, madeCells #[.int .i64 0] n, rfl, Nat.le_refl _, heap_alloc_new w _, Nat.zero_le _, hn, by simp [madeCells], rfl⟩⟩
set_option maxHeartbeats 400000 in
theorem typed11_any (z k : Int) (g : Nat) (w : World) (hB : Blk w g 3 #[.int .i64 k]) :
    Calls Tryz.prog 128 #[.int .i64 z, .pointer (some ⟨g, 0, none⟩)] w fun e w' => e = .returned (.bool (!(z == k))) ∧ Below w.heap.size w w' := by
  have c0 := hB.c1
  generalize hq : (z == k) = q
  have b1 : (z != k) = !q := by rw [bne, hq]
  go_enter Tryz.func128, Tryz.ntmps128
  go_wp2_with fail
  go_ret
  exact ⟨rfl, Below.refl _ _⟩
theorem any_not_allI (l : List Int) (k : Int) : (l.any fun z => !(z == k)) = !(l.all (· == k)) := by
  induction l with
  | nil => rfl
  | cons a m ih => rw [List.any_cons, List.all_cons, ih]; simp
set_option maxHeartbeats 400000 in
theorem all_any (k : Int) (g : Nat) (kv : Value) (ks : List Int) (w : World) (hB : Blk w g 148 #[kv]) (hk : SlI (Lt w.heap.size) w kv ks) :
    Calls Tryz.prog 126 #[.int .i64 k, .pointer (some ⟨g, 0, none⟩)] w fun e w' => e = .returned (.bool (ks.all (· == k))) ∧ Below w.heap.size w w' := by
  have eg : ∀ args w, (callFunc 128 args).run Tryz.prog w = .ok (.enter 128 args) w := enters_of Tryz.func128 (by kernel_rfl) rfl
  have hb := bone w (.cells #[.int .i64 k] 3)
  have hK := Blk.new w 3 #[.int .i64 k]
  have hB1 := hB.alloc (.cells #[.int .i64 k] 3)
  have c0 := hB1.c1
  have HC := Lib.hid (containsFuncI 128 eg #[.pointer (some ⟨w.heap.size, 0, none⟩)] kv ks (fun z => !(z == k)) _ (hk.now hb) (fun z v w1 _ hb1 _ hv => by
    obtain ⟨rfl, _⟩ := hv
    exact typed11_any z k w.heap.size w1 (hK.now hb1)))
  have HN := Lib.hid (any_not_allI ks k)
  clear hB hB1 hK hk eg
  go_enter Tryz.func126, Tryz.ntmps126
  go_wp2_with fail
  refine HC.out.mono ?_
  rintro e w1 ⟨rfl, hb1⟩
  rw [HN.out]
  generalize hq : ks.all (fun x => x == k) = q
  clear c0
  go_wp2_with fail
  go_ret
  exact ⟨ret_bool (by rw [hq] <;> simp), bthen hb hb1⟩
def kindsOf (vs : List Var) (l : List Ex) : List Int := l.map fun x => (typX vs x).1
theorem kinds_snoc {vs : List Var} {l : List Ex} {k : Nat} {x : Ex} (hx : l[k]? = some x) : kindsOf vs (l.take (k + 1)) = kindsOf vs (l.take k) ++ [(typX vs x).1] := by
  unfold kindsOf
  rw [List.take_add_one, hx, List.map_append]; rfl
theorem typL_stop {vs : List Var} {l : List Ex} {k : Nat} {x : Ex} (hx : l[k]? = some x) (h : (typX vs x).2 ≠ 0) (hp : ∀ y ∈ l.take k, (typX vs y).2 = 0) : (typL vs l).2 = (typX vs x).2 := by
  induction l generalizing k with
  | nil => simp at hx
  | cons a l ih =>
    rw [typL_cons]
    cases k with
    | zero =>
      injection hx with hx
      rw [hx, if_pos h]
    | succ k =>
      have h0 : (typX vs a).2 = 0 := hp a (by simp)
      have h1 := ih (k := k) (by simpa using hx) (fun y hy => hp y (by simp [hy]))
      rw [if_neg (by simp [h0])]
      rw [if_pos (by rw [h1]; exact h)]
      exact h1
theorem typL_all {vs : List Var} {l : List Ex} (hp : ∀ y ∈ l, (typX vs y).2 = 0) : typL vs l = (kindsOf vs l, 0) := by
  induction l with
  | nil => exact typL_nil vs
  | cons a l ih =>
    rw [typL_cons, ih (fun y hy => hp y (by simp [hy])), if_neg (by simp [hp a (by simp)]), if_neg (by simp)]
    rfl
theorem typX_stop {vs : List Var} {x y : Ex} {k : Nat} (hx : x.l[k]? = some y) (h : (typX vs y).2 ≠ 0) (hp : ∀ y ∈ x.l.take k, (typX vs y).2 = 0) : typX vs x = (0, (typX vs y).2) := by
  rw [typX_eq, typL_stop hx h hp, if_pos h]
theorem typX_all {vs : List Var} {x : Ex} (hp : ∀ y ∈ x.l, (typX vs y).2 = 0) : typX vs x = typO vs x (kindsOf vs x.l) := by
  rw [typX_eq, typL_all hp, if_neg (by simp)]
def RetT (vs : List Var) (x : Ex) (w : World) (e : Ending) (w' : World) : Prop :=
  e = .returned (.tuple #[.int .i64 (typX vs x).1, .int .i64 (typX vs x).2]) ∧ Fit (typX vs x).1 ∧ Below w.heap.size w w'
theorem ret_T {vs : List Var} {x : Ex} {a b : Int} {w w' : World} (h : typX vs x = (a, b)) (hf : Fit a) (hb : Below w.heap.size w w') : RetT vs x w (.returned (.tuple #[.int .i64 a, .int .i64 b])) w' := by
  unfold RetT; rw [h]; exact ⟨rfl, hf, hb⟩
theorem typed_step {vs : List Var} {l : List Ex} {k : Nat} {x : Ex} (hx : l[k]? = some x) (h : (typX vs x).2 = 0) (hp : ∀ y ∈ l.take k, (typX vs y).2 = 0) : ∀ y ∈ l.take (k + 1), (typX vs y).2 = 0 := by
  intro y hy
  rw [List.take_add_one, hx, List.mem_append] at hy
  rcases hy with hy | hy
  · exact hp y hy
  · simp at hy; subst hy; exact h
theorem kinds_fit {vs : List Var} {l : List Ex} {k : Nat} {x : Ex} (hx : l[k]? = some x) (h : Fit (typX vs x).1) (hp : ∀ z ∈ kindsOf vs (l.take k), Fit z) : ∀ z ∈ kindsOf vs (l.take (k + 1)), Fit z := by
  intro z hz
  rw [kinds_snoc hx, List.mem_append] at hz
  rcases hz with hz | hz
  · exact hp z hz
  · simp at hz; subst hz; exact h
theorem own_ne {w : World} {base e size n g t : Nat} {v : Value} {xs : List Value} {cs : Array Value} (h : w.ownsRow base e size v n xs) (hB : Blk w g t cs) (ht : t ≠ e) : v.ownBlock ≠ some g := by
  rcases h.2 with ⟨rfl, _⟩ | ⟨g', cap, cur, rfl, _, hg, _⟩
  · simp [Value.ownBlock]
  · intro he
    simp only [Value.ownBlock, Option.some.injEq] at he
    subst he
    unfold Blk at hB
    rw [hB] at hg
    simp only [Option.some.injEq, Obj.cells.injEq] at hg
    exact ht hg.2.1
theorem kinds_len (vs : List Var) (l : List Ex) : (kindsOf vs l).length = l.length := by unfold kindsOf; simp
set_option maxHeartbeats 8000000 in
set_option maxRecDepth 100000 in
theorem typed_any : ∀ (n : Nat) (vs : List Var) (x : Ex) (uv u : Value) (w : World), SlX (Lt w.heap.size) w uv vs → IsEx n (Lt w.heap.size) w u x → okX x = true →
    Calls Tryz.prog 79 #[uv, u] w (RetT vs x w) := by
  intro n
  induction n using Nat.strongRecOn with
  | _ n ih =>
    intro vs x uv u w hvs h hok
    obtain ⟨Av, cv, rfl, v1, v2, hvs⟩ := hvs.open_
    obtain ⟨lv, rfl, h1, h2, h3, h4⟩ := h
    obtain ⟨A, c, rfl, l1, l2, h4⟩ := h4.open_
    have hk := okX_eq x
    rw [hok] at hk
    replace hk := hk.symm
    simp only [Bool.and_eq_true, decide_eq_true_eq] at hk
    obtain ⟨⟨hsh, hlen⟩, hokl⟩ := hk
    have HSH := Lib.hid (shape_len hsh)
    have HOK := Lib.hid (okL_mem hokl)
    clear hsh hokl hok
    have hmk := run_make_cap (P := Tryz.prog) 148 3 (.int .i64 0) 8 Tryz.underlying148 intInfo x.l.length (by omega) (by omega) rfl
    have hb0 := bone w (.cells #[.int .i64 x.op, .int .i64 x.v.kind, .int .i64 x.v.n, .string x.v.s, .string x.s, .slice A x.l.length c] 28)
    have hB0 := Blk.new w 28 #[.int .i64 x.op, .int .i64 x.v.kind, .int .i64 x.v.n, .string x.v.s, .string x.s, .slice A x.l.length c]
    have hl0 := SlE.now h4 hb0
    have hv0 := hvs.now hb0
    clear h4 hvs
    go_enter Tryz.func79, Tryz.ntmps79
    go_upto_region 1 with fail
    generalize hw1 : w.alloc (.cells #[.int .i64 x.op, .int .i64 x.v.kind, .int .i64 x.v.n, .string x.v.s, .string x.s, .slice A x.l.length c] 28) = w1 at *
    obtain ⟨q0, q1, q2, q3, q4, q5⟩ := hB0.c6
    clear hw1
    go_upto_region 2 with fail
    have hrow2 := (own_room w1 3 x.l.length (by unfold maxLen; omega)).alloc (.cells #[.slice (some ⟨w1.heap.size, 0, none⟩) 0 x.l.length] 148)
    have hK2 : Blk ((w1.alloc (.cells (madeCells #[.int .i64 0] x.l.length) 3)).alloc (.cells #[.slice (some ⟨w1.heap.size, 0, none⟩) 0 x.l.length] 148)) (w1.heap.size + 1) 148 #[.slice (some ⟨w1.heap.size, 0, none⟩) 0 x.l.length] := Blk.new_at (by simp)
    have hb2 := bbox (bone w1 (.cells (madeCells #[.int .i64 0] x.l.length) 3)) (.cells #[.slice (some ⟨w1.heap.size, 0, none⟩) 0 x.l.length] 148)
    generalize hw2 : (w1.alloc (.cells (madeCells #[.int .i64 0] x.l.length) 3)).alloc (.cells #[.slice (some ⟨w1.heap.size, 0, none⟩) 0 x.l.length] 148) = w2 at *
    clear hw2 hmk q0 q1 q2 q3 q4 q5
    have hB2 := hB0.now hb2
    obtain ⟨q0, q1, q2, q3, q4, q5⟩ := hB2.c6
    have eg : ∀ args w, (callFunc 126 args).run Tryz.prog w = .ok (.enter 126 args) w := enters_of Tryz.func126 (by kernel_rfl) rfl
    go_wp2_with fail
    go_loopw [22] (fun i wr => ∃ (k : Nat) (kv : Value), k ≤ x.l.length ∧ i = .int .i64 k ∧ Blk wr (w1.heap.size + 1) 148 #[kv] ∧ wr.ownsRow w1.heap.size 3 1 kv k ((kindsOf vs (x.l.take k)).map (Value.int .i64)) ∧ (∀ y ∈ x.l.take k, (typX vs y).2 = 0) ∧ (∀ z ∈ kindsOf vs (x.l.take k), Fit z) ∧ Below w1.heap.size w1 wr) (fun i _ => x.l.length - (intOf i).toNat)
    case atStart => exact ⟨0, _, Nat.zero_le _, rfl, hK2, hrow2, fun y hy => by simp at hy, fun z hz => by simp [kindsOf] at hz, hb2⟩
    case round =>
      obtain ⟨k, kv, hk, rfl, hK, hrow, hp, hfit, hb⟩ := hrel
      have HP := Lib.hid hp
      have HF := Lib.hid hfit
      clear hp hfit
      have hbw := bthen hb0 hb
      have hsz := hb.size
      by_cases hlt : k < x.l.length
      · obtain ⟨b, o, y, lv, n', hn, rfl, hD, hx, hex, hfv, hsl, e0, e1, e2, e3, e4, e5⟩ := (SlE.now hl0 hb).at_ hlt
        have HX := Lib.hid hx
        have hoky := HOK.out y (List.mem_of_getElem? hx)
        obtain ⟨A2, c2', rfl, m1, m2, _⟩ := hsl.open_
        have hb3 := bone wr (.cells #[.int .i64 y.op, .int .i64 y.v.kind, .int .i64 y.v.n, .string y.v.s, .string y.s, .slice A2 y.l.length c2'] 28)
        have hcall := Lib.hid (ih n' (by omega) vs y _ _ _ ((hv0.now hb).now hb3) (hex.now hb3) hoky)
        clear hx hex hfv hsl hoky
        go_wp2_with fail
        refine hcall.out.mono ?_
        clear hcall
        rintro e w4 ⟨rfl, hft, hb4⟩
        have hbw4 := bthen hbw (bthen hb3 hb4)
        have hb4' := bthen hb (bthen hb3 hb4)
        have hK4 := (hK.now hb3).now hb4
        have hrow4 := own_now (own_now hrow hb3) hb4
        by_cases hz : (typX vs y).2 = 0
        · have HST := Lib.hid (typed_step HX.out hz HP.out)
          have HFT := Lib.hid (kinds_fit HX.out hft HF.out)
          have HSN := Lib.hid (kinds_snoc (vs := vs) HX.out)
          rw [hz]
          clear hz
          generalize (typX vs y).1 = ty at *
          have c0 := hK4.c1
          have hsz4 := hb4'.size
          go_wp2_with (at_builtin; first | refine wpList_push appInts rfl (.tmp 35) (.tmp 37) rfl w4 [.int .i64 ty] rfl (by simp [Value.oneCell']) kv k _ rfl hrow4 rfl (by omega) hsz4 ?_)
          intro v5 w5 hrow5 hg5 _
          have hne4 := own_ne hrow4 hK4 (by decide)
          obtain ⟨ao, n5, cap5, rfl⟩ : ∃ ao n5 cap5, v5 = .slice ao n5 cap5 := by
            rcases hrow5.2 with ⟨hv, _⟩ | ⟨g, cap, cur, hv, _⟩
            · exact ⟨_, _, _, hv⟩
            · exact ⟨_, _, _, hv⟩
          have hK5 := hK4.grown hg5 (fun e => hne4 e.symm)
          have c1 := hK5.c1
          have z1 := hK5.frozen 0
          have hb5 : Below w1.heap.size w1 w5 := hb4'.trans (below_of_grown hg5 hsz4 (fun g hg => (World.ownsRow.lt hrow4 g hg).1))
          have hne5 := own_ne hrow5 hK5 (by decide)
          have hK6 := hK5.set_ 0 (.slice ao n5 cap5)
          have hb6 : Below w1.heap.size w1 (w5.setCell ⟨w1.heap.size + 1, 0, none⟩ (.slice ao n5 cap5)) := hb5.setCell (p := ⟨w1.heap.size + 1, 0, none⟩) (by show w1.heap.size ≤ w1.heap.size + 1; omega) (.slice ao n5 cap5)
          have hrow6 : (w5.setCell ⟨w1.heap.size + 1, 0, none⟩ (.slice ao n5 cap5)).ownsRow w1.heap.size 3 1 (.slice ao n5 cap5) (k + 1) _ := ownsRow_setCell_other hrow5 hne5 (.slice ao n5 cap5)
          clear c0
          go_wp2_with fail
          go_roundw
          case rel =>
            refine ⟨k + 1, .slice ao n5 cap5, by omega, by go_num, hK6, ?_, HST.out, HFT.out, hb6⟩
            rw [HSN.out, List.map_append]
            exact hrow6
          case measure => simp [intOf]; omega
        · have HR := Lib.hid (typX_stop HX.out hz HP.out)
          have b1 : ((typX vs y).2 != 0) = true := by simpa using hz
          clear hz
          go_wp2_with fail
          go_ret2
          exact ret_T HR.out (by unfold Fit; omega) hbw4
      · obtain rfl : k = x.l.length := by omega
        rw [List.take_of_length_le (Nat.le_refl _)] at hrow
        have hpp := HP.out
        have hff := HF.out
        rw [List.take_of_length_le (Nat.le_refl _)] at hpp hff
        have HT := Lib.hid (typX_all hpp)
        have hks := SlI.of_own hrow hff
        have HKL := Lib.hid (kinds_len vs x.l)
        clear hpp hff HP HF hrow
        generalize hkg : kindsOf vs x.l = ks at *
        clear hkg
        have HALL := Lib.hid (fun k => all_any k (w1.heap.size + 1) kv ks wr hK hks)
        have hBr := hB0.now hb
        have hvr := hv0.now hb
        clear q0 q1 q2 q3 q4 q5 hB2
        obtain ⟨q0, q1, q2, q3, q4, q5⟩ := hBr.c6
        have HTO := HT.out
        unfold typO at HTO
        have HTO := Lib.hid HTO
        have hfk := h2.kind
        have hK' := hK
        clear HT hK ih hl0 HOK
        generalize x.op = o at *
        by_cases c1 : o = 1
        · subst c1
          have HR : Hid (typX vs x = (x.v.kind, 0)) := by show _ = _; rw [HTO.out, if_pos rfl]
          clear HTO
          go_wp2_with fail
          go_ret2
          exact ret_T HR.out hfk hbw
        by_cases c2 : o = 2
        · subst c2
          have HR : Hid (typX vs x = if findV vs x.s < 0 then (0, 8) else (kindAt vs (findV vs x.s), 0)) := by show _ = _; rw [HTO.out, if_neg (by decide), if_pos rfl]
          have HFI := Lib.hid (findV_any vs x.s)
          clear HTO
          go_wp2_with fail
          refine (find_any vs x.s _ _ hvr).mono ?_
          rintro e w3 ⟨rfl, hb3⟩
          have hv3 := hvr.now hb3
          have hbw3 := bthen hbw hb3
          clear q0 q1 q2 q3 q4 q5 hBr
          generalize findV vs x.s = z at *
          rcases HFI.out with hz | ⟨i, rfl, hi⟩
          · have HR : Hid (typX vs x = (0, 8)) := by show _ = _; rw [HR.out, if_pos hz]
            go_wp2_with fail
            go_ret2
            exact ret_T HR.out (by unfold Fit; omega) hbw3
          · obtain ⟨b, o', y, iv, rfl, hD, hx, hvar, hiv, e0, e1, e2, e3, e4⟩ := hv3.at_ hi
            have hfy : Fit y.kind := by obtain ⟨_, _, _, hf, _⟩ := hvar; exact hf
            have HR : Hid (typX vs x = (y.kind, 0)) := by
              show _ = _
              rw [HR.out, if_neg (by omega)]
              unfold kindAt
              rw [Int.toNat_natCast, hx]; rfl
            have i1 : (0 : Int) ≤ (i : Int) := by omega
            have i2 : (i : Int) < (vs.length : Int) := by omega
            clear hx hvar hiv
            go_wp2_with fail
            go_ret2
            exact ret_T HR.out hfy hbw3
        by_cases c9 : o = 9
        · subst c9
          have hcall := HALL.out 2
          generalize hq : ks.all (fun x => x == 2) = q at hcall
          have HC := Lib.hid hcall
          have HR : Hid (typX vs x = if q then (2, 0) else (0, 11)) := by show _ = _; rw [HTO.out, if_neg (by decide), if_neg (by decide), if_pos (by decide), hq]
          clear hcall hq HTO
          cases q
          · have HR : Hid (typX vs x = (0, 11)) := HR.out
            go_wp2_with (go_at_fn 126; refine HC.out.mono ?_; rintro e w' ⟨rfl, hb'⟩)
            go_ret2
            exact ret_T HR.out (by unfold Fit; omega) (bthen hbw hb')
          · have HR : Hid (typX vs x = (2, 0)) := HR.out
            go_wp2_with (go_at_fn 126; refine HC.out.mono ?_; rintro e w' ⟨rfl, hb'⟩)
            go_ret2
            exact ret_T HR.out (by unfold Fit; omega) (bthen hbw hb')
        by_cases c10 : o = 10
        · subst c10
          have hcall := HALL.out 2
          generalize hq : ks.all (fun x => x == 2) = q at hcall
          have HC := Lib.hid hcall
          have HR : Hid (typX vs x = if q then (2, 0) else (0, 11)) := by show _ = _; rw [HTO.out, if_neg (by decide), if_neg (by decide), if_pos (by decide), hq]
          clear hcall hq HTO
          cases q
          · have HR : Hid (typX vs x = (0, 11)) := HR.out
            go_wp2_with (go_at_fn 126; refine HC.out.mono ?_; rintro e w' ⟨rfl, hb'⟩)
            go_ret2
            exact ret_T HR.out (by unfold Fit; omega) (bthen hbw hb')
          · have HR : Hid (typX vs x = (2, 0)) := HR.out
            go_wp2_with (go_at_fn 126; refine HC.out.mono ?_; rintro e w' ⟨rfl, hb'⟩)
            go_ret2
            exact ret_T HR.out (by unfold Fit; omega) (bthen hbw hb')
        by_cases c11 : o = 11
        · subst c11
          have hcall := HALL.out 2
          generalize hq : ks.all (fun x => x == 2) = q at hcall
          have HC := Lib.hid hcall
          have HR : Hid (typX vs x = if q then (2, 0) else (0, 11)) := by show _ = _; rw [HTO.out, if_neg (by decide), if_neg (by decide), if_pos (by decide), hq]
          clear hcall hq HTO
          cases q
          · have HR : Hid (typX vs x = (0, 11)) := HR.out
            go_wp2_with (go_at_fn 126; refine HC.out.mono ?_; rintro e w' ⟨rfl, hb'⟩)
            go_ret2
            exact ret_T HR.out (by unfold Fit; omega) (bthen hbw hb')
          · have HR : Hid (typX vs x = (2, 0)) := HR.out
            go_wp2_with (go_at_fn 126; refine HC.out.mono ?_; rintro e w' ⟨rfl, hb'⟩)
            go_ret2
            exact ret_T HR.out (by unfold Fit; omega) (bthen hbw hb')
        by_cases c7 : o = 7
        · subst c7
          have hcall := HALL.out 2
          generalize hq : ks.all (fun x => x == 2) = q at hcall
          have HC := Lib.hid hcall
          have HR : Hid (typX vs x = if q then (1, 0) else (0, 11)) := by show _ = _; rw [HTO.out, if_neg (by decide), if_neg (by decide), if_neg (by decide), if_pos (by decide), hq]
          clear hcall hq HTO
          cases q
          · have HR : Hid (typX vs x = (0, 11)) := HR.out
            go_wp2_with (go_at_fn 126; refine HC.out.mono ?_; rintro e w' ⟨rfl, hb'⟩)
            go_ret2
            exact ret_T HR.out (by unfold Fit; omega) (bthen hbw hb')
          · have HR : Hid (typX vs x = (1, 0)) := HR.out
            go_wp2_with (go_at_fn 126; refine HC.out.mono ?_; rintro e w' ⟨rfl, hb'⟩)
            go_ret2
            exact ret_T HR.out (by unfold Fit; omega) (bthen hbw hb')
        by_cases c8 : o = 8
        · subst c8
          have hcall := HALL.out 2
          generalize hq : ks.all (fun x => x == 2) = q at hcall
          have HC := Lib.hid hcall
          have HR : Hid (typX vs x = if q then (1, 0) else (0, 11)) := by show _ = _; rw [HTO.out, if_neg (by decide), if_neg (by decide), if_neg (by decide), if_pos (by decide), hq]
          clear hcall hq HTO
          cases q
          · have HR : Hid (typX vs x = (0, 11)) := HR.out
            go_wp2_with (go_at_fn 126; refine HC.out.mono ?_; rintro e w' ⟨rfl, hb'⟩)
            go_ret2
            exact ret_T HR.out (by unfold Fit; omega) (bthen hbw hb')
          · have HR : Hid (typX vs x = (1, 0)) := HR.out
            go_wp2_with (go_at_fn 126; refine HC.out.mono ?_; rintro e w' ⟨rfl, hb'⟩)
            go_ret2
            exact ret_T HR.out (by unfold Fit; omega) (bthen hbw hb')
        by_cases c3 : o = 3
        · subst c3
          have hcall := HALL.out 1
          generalize hq : ks.all (fun x => x == 1) = q at hcall
          have HC := Lib.hid hcall
          have HR : Hid (typX vs x = if q then (1, 0) else (0, 11)) := by show _ = _; rw [HTO.out, if_neg (by decide), if_neg (by decide), if_neg (by decide), if_neg (by decide), if_pos (by decide), hq]
          clear hcall hq HTO
          cases q
          · have HR : Hid (typX vs x = (0, 11)) := HR.out
            go_wp2_with (go_at_fn 126; refine HC.out.mono ?_; rintro e w' ⟨rfl, hb'⟩)
            go_ret2
            exact ret_T HR.out (by unfold Fit; omega) (bthen hbw hb')
          · have HR : Hid (typX vs x = (1, 0)) := HR.out
            go_wp2_with (go_at_fn 126; refine HC.out.mono ?_; rintro e w' ⟨rfl, hb'⟩)
            go_ret2
            exact ret_T HR.out (by unfold Fit; omega) (bthen hbw hb')
        by_cases c4 : o = 4
        · subst c4
          have hcall := HALL.out 1
          generalize hq : ks.all (fun x => x == 1) = q at hcall
          have HC := Lib.hid hcall
          have HR : Hid (typX vs x = if q then (1, 0) else (0, 11)) := by show _ = _; rw [HTO.out, if_neg (by decide), if_neg (by decide), if_neg (by decide), if_neg (by decide), if_pos (by decide), hq]
          clear hcall hq HTO
          cases q
          · have HR : Hid (typX vs x = (0, 11)) := HR.out
            go_wp2_with (go_at_fn 126; refine HC.out.mono ?_; rintro e w' ⟨rfl, hb'⟩)
            go_ret2
            exact ret_T HR.out (by unfold Fit; omega) (bthen hbw hb')
          · have HR : Hid (typX vs x = (1, 0)) := HR.out
            go_wp2_with (go_at_fn 126; refine HC.out.mono ?_; rintro e w' ⟨rfl, hb'⟩)
            go_ret2
            exact ret_T HR.out (by unfold Fit; omega) (bthen hbw hb')
        by_cases c5 : o = 5
        · subst c5
          have hcall := HALL.out 1
          generalize hq : ks.all (fun x => x == 1) = q at hcall
          have HC := Lib.hid hcall
          have HR : Hid (typX vs x = if q then (1, 0) else (0, 11)) := by show _ = _; rw [HTO.out, if_neg (by decide), if_neg (by decide), if_neg (by decide), if_neg (by decide), if_pos (by decide), hq]
          clear hcall hq HTO
          cases q
          · have HR : Hid (typX vs x = (0, 11)) := HR.out
            go_wp2_with (go_at_fn 126; refine HC.out.mono ?_; rintro e w' ⟨rfl, hb'⟩)
            go_ret2
            exact ret_T HR.out (by unfold Fit; omega) (bthen hbw hb')
          · have HR : Hid (typX vs x = (1, 0)) := HR.out
            go_wp2_with (go_at_fn 126; refine HC.out.mono ?_; rintro e w' ⟨rfl, hb'⟩)
            go_ret2
            exact ret_T HR.out (by unfold Fit; omega) (bthen hbw hb')
        obtain ⟨A3, c3', rfl, m1, m2, hks⟩ := hks.open_
        have c0 := hK'.c1
        by_cases c6 : o = 6
        · subst c6
          have hln : 2 ≤ ks.length := by have := HKL.out; have := HSH.out; omega
          obtain ⟨b, o', z, rfl, hD, hx, hf, e0⟩ := hks.at_ (k := 0) (by omega)
          have hcall := HALL.out z
          have hz : ks.getD 0 0 = z := by rw [List.getD_eq_getElem?_getD, hx]; rfl
          generalize hq : ks.all (fun x => x == z) = q at hcall
          have HC := Lib.hid hcall
          have HR : Hid (typX vs x = if q then (1, 0) else (0, 11)) := by show _ = _; rw [HTO.out, if_neg (by decide), if_neg (by decide), if_neg (by decide), if_neg (by decide), if_neg (by decide), if_neg (by decide), hz, hq]
          have i2 : (0 : Int) < (ks.length : Int) := by omega
          have e0' : wr.cell? ⟨b, o', none⟩ = some (.int .i64 z) := e0
          clear hcall hq HTO hx hz e0
          cases q
          · have HR : Hid (typX vs x = (0, 11)) := HR.out
            go_wp2_with (go_at_fn 126; refine HC.out.mono ?_; rintro e w' ⟨rfl, hb'⟩)
            go_ret2
            exact ret_T HR.out (by unfold Fit; omega) (bthen hbw hb')
          · have HR : Hid (typX vs x = (1, 0)) := HR.out
            go_wp2_with (go_at_fn 126; refine HC.out.mono ?_; rintro e w' ⟨rfl, hb'⟩)
            go_ret2
            exact ret_T HR.out (by unfold Fit; omega) (bthen hbw hb')
        by_cases c13 : o = 13
        · subst c13
          have hln : 2 ≤ ks.length := by have := HKL.out; have := HSH.out; omega
          obtain ⟨b, o', z, rfl, hD, hx, hf, e0⟩ := hks.at_ (k := 0) (by omega)
          have hcall := HALL.out z
          have hz : ks.getD 0 0 = z := by rw [List.getD_eq_getElem?_getD, hx]; rfl
          generalize hq : ks.all (fun x => x == z) = q at hcall
          have HC := Lib.hid hcall
          have HR : Hid (typX vs x = if q then (1, 0) else (0, 11)) := by show _ = _; rw [HTO.out, if_neg (by decide), if_neg (by decide), if_neg (by decide), if_neg (by decide), if_neg (by decide), if_neg (by decide), hz, hq]
          have i2 : (0 : Int) < (ks.length : Int) := by omega
          have e0' : wr.cell? ⟨b, o', none⟩ = some (.int .i64 z) := e0
          clear hcall hq HTO hx hz e0
          cases q
          · have HR : Hid (typX vs x = (0, 11)) := HR.out
            go_wp2_with (go_at_fn 126; refine HC.out.mono ?_; rintro e w' ⟨rfl, hb'⟩)
            go_ret2
            exact ret_T HR.out (by unfold Fit; omega) (bthen hbw hb')
          · have HR : Hid (typX vs x = (1, 0)) := HR.out
            go_wp2_with (go_at_fn 126; refine HC.out.mono ?_; rintro e w' ⟨rfl, hb'⟩)
            go_ret2
            exact ret_T HR.out (by unfold Fit; omega) (bthen hbw hb')
        obtain rfl : o = 12 := by have := HSH.out; omega
        have hln : ks.length = 3 := by have := HKL.out; have := HSH.out; omega
        obtain ⟨b, o', z0, rfl, hD, hx0, hf0, e0⟩ := hks.at_ (k := 0) (by omega)
        obtain ⟨b1, o1, z1, hA1, _, hx1, hf1, e1⟩ := hks.at_ (k := 1) (by omega)
        injection hA1 with hA1; injection hA1 with g1 g2 _; subst g1 g2
        obtain ⟨b2, o2, z2, hA2, _, hx2, hf2, e2⟩ := hks.at_ (k := 2) (by omega)
        injection hA2 with hA2; injection hA2 with g1 g2 _; subst g1 g2
        have d0 : ks.getD 0 0 = z0 := by rw [List.getD_eq_getElem?_getD, hx0]; rfl
        have d1 : ks.getD 1 0 = z1 := by rw [List.getD_eq_getElem?_getD, hx1]; rfl
        have d2 : ks.getD 2 0 = z2 := by rw [List.getD_eq_getElem?_getD, hx2]; rfl
        have HR : Hid (typX vs x = if z0 = 1 ∧ z1 = z2 then (z1, 0) else (0, 11)) := by show _ = _; rw [HTO.out, if_neg (by decide), if_neg (by decide), if_neg (by decide), if_neg (by decide), if_neg (by decide), if_pos (by decide), d0, d1, d2]
        have e0' : wr.cell? ⟨b, o', none⟩ = some (.int .i64 z0) := e0
        have i0 : (0 : Int) < (ks.length : Int) := by omega
        have i1 : (1 : Int) < (ks.length : Int) := by omega
        have i2 : (2 : Int) < (ks.length : Int) := by omega
        clear HTO hx0 hx1 hx2 d0 d1 d2 e0 hln
        by_cases hz0 : z0 = 1
        · by_cases hz : z1 = z2
          · have HR : Hid (typX vs x = (z1, 0)) := by show _ = _; rw [HR.out, if_pos ⟨hz0, hz⟩]
            have b0 : (z0 == 1) = true := by simp [hz0]
            have b1 : (z1 == z2) = true := by simp [hz]
            clear hz0 hz
            go_upto_region 35 with fail
            go_quiet (fail)
            go_wp2_with fail
            go_ret2
            exact ret_T HR.out hf1 (bdrawn hbw _)
          · have HR : Hid (typX vs x = (0, 11)) := by show _ = _; rw [HR.out, if_neg (fun h => hz h.2)]
            have b0 : (z0 == 1) = true := by simp [hz0]
            have b1 : (z1 == z2) = false := by simp [hz]
            clear hz0 hz
            go_upto_region 35 with fail
            go_quiet (fail)
            go_wp2_with fail
            go_ret2
            exact ret_T HR.out (by unfold Fit; omega) (bdrawn hbw _)
        · have HR : Hid (typX vs x = (0, 11)) := by show _ = _; rw [HR.out, if_neg (fun h => hz0 h.1)]
          have b0 : (z0 == 1) = false := by simp [hz0]
          clear hz0
          go_upto_region 35 with fail
          go_quiet (fail)
          go_wp2_with fail
          go_ret2
          exact ret_T HR.out (by unfold Fit; omega) (bdrawn hbw _)
end Go.Proofs.YtijmnenojbfdnaaGreatDoor
