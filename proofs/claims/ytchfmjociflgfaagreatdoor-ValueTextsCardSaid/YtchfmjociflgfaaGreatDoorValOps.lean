/- value.In, Size, Nth, Rank. -/
import Derived.Test.YtchfmjociflgfaaGreatDoorValVars
namespace Go.Proofs.YtchfmjociflgfaaGreatDoor
open Go.RowKit

def inE (x : Var) (v : Val) : Bool × Int := if varB x && validV v then (decide (0 ≤ placeV x v), 0) else (false, 1)
def sizeE (x : Var) : Int × Int := if varB x then (sizeV x, 0) else (0, 1)
def nthE (x : Var) (i : Int) : Val × Int := if varB x then (if i < 0 ∨ sizeV x ≤ i then (noV, 2) else (nthV x i, 0)) else (noV, 1)
def rankE (x : Var) (v : Val) : Int × Int := if varB x && validV v then (if placeV x v < 0 then (0, 11) else (placeV x v, 0)) else (0, 1)
theorem ret_bi {a b : Bool} {c d : Int} (h : (a, c) = (b, d)) : Ending.returned (.tuple #[.bool a, .int .i64 c]) = .returned (.tuple #[.bool b, .int .i64 d]) := by injection h with h1 h2; rw [h1, h2]
theorem ret_ii {a b c d : Int} (h : (a, c) = (b, d)) : Ending.returned (.tuple #[.int .i64 a, .int .i64 c]) = .returned (.tuple #[.int .i64 b, .int .i64 d]) := by injection h with h1 h2; rw [h1, h2]
theorem fit_nth {x : Var} (h : Tame x) {i : Nat} (hi : (i : Int) < sizeV x) (hs : ∀ s ∈ x.items, s.size ≤ maxLen) : FitV (nthV x i) := by
  obtain ⟨nm, k, lo, hi', its⟩ := x
  obtain ⟨⟨l1, l2⟩, ⟨l3, l4⟩, ld, lk, li⟩ := h
  dsimp only at l1 l2 l3 l4 ld lk li hs
  rcases lk with rfl | rfl | rfl
  · have hi1 : (i : Int) < 2 := hi
    exact ⟨by simp [nthV, Fit], by simp [nthV, Fit]; omega, by simp [nthV, emptyS, ByteArray.size]⟩
  · have hi1 : (i : Int) < hi' - lo + 1 := hi
    have := ld rfl
    exact ⟨by simp [nthV, Fit], by simp [nthV, Fit]; omega, by simp [nthV, emptyS, ByteArray.size]⟩
  · have hi1 : (i : Int) < (its.length : Int) := hi
    refine ⟨by simp [nthV, Fit], by simp [nthV, Fit], ?_⟩
    have h1 : i < its.length := by omega
    simp only [nthV, if_true, Int.toNat_natCast, List.getD_eq_getElem?_getD, List.getElem?_eq_getElem h1, Option.getD_some]
    exact hs _ (List.getElem_mem h1)
theorem SlS.sizes {D : Nat → Prop} {w : World} {v : Value} {zs : List ByteArray} (h : SlS D w v zs) : ∀ z ∈ zs, z.size ≤ maxLen := by
  obtain ⟨A, c, rfl, h1, h2, h⟩ := h.open_
  intro z hz
  obtain ⟨k, hk, rfl⟩ := List.mem_iff_getElem.1 hz
  obtain ⟨b, o, y, _, _, hy, hs, _⟩ := h.at_ hk
  rw [List.getElem?_eq_getElem hk] at hy
  injection hy with hy
  rw [hy]; exact hs
theorem IsVar.sizes {D : Nat → Prop} {w : World} {u : Value} {x : Var} (h : IsVar D w u x) : ∀ z ∈ x.items, z.size ≤ maxLen := by
  obtain ⟨iv, _, _, _, _, _, hi⟩ := h
  exact hi.sizes

set_option maxHeartbeats 1000000 in
theorem sizeE_any (x : Var) (u : Value) (w : World) (h : IsVar (Lt w.heap.size) w u x) :
    Calls Tryz.prog 30 #[u] w fun e w' => e = .returned (.tuple #[.int .i64 (sizeE x).1, .int .i64 (sizeE x).2]) ∧ Below w.heap.size w w' := by
  have hv := h
  obtain ⟨iv, rfl, hnm, f1, f2, f3, hit⟩ := h
  obtain ⟨A, c, rfl, i1, i2, hit⟩ := hit.open_
  have hb := bone w (.cells #[.string x.name, .int .i64 x.kind, .int .i64 x.low, .int .i64 x.high, .slice A x.items.length c] 29)
  have hB := Blk.new w 29 #[.string x.name, .int .i64 x.kind, .int .i64 x.low, .int .i64 x.high, .slice A x.items.length c]
  have hv1 := hv.now hb
  go_enter Tryz.func30, Tryz.ntmps30
  go_wp2_with fail
  refine (validVar_any x _ _ hv1).mono ?_
  rintro e w2 ⟨rfl, hb2⟩
  have hB2 := hB.now hb2
  have hv2 := hv1.now hb2
  have hbw2 := bthen hb hb2
  obtain ⟨q0, q1, q2, q3, q4⟩ := hB2.c5
  generalize hq : varB x = q
  have HQ := Lib.hid hq
  clear hq
  cases q
  · have HE : Hid ((0, 1) = ((sizeE x).1, (sizeE x).2)) := by show _ = _; unfold sizeE; rw [HQ.out]; rfl
    go_wp2_with fail
    go_ret2
    exact ⟨ret_ii HE.out, hbw2⟩
  · have HE : Hid ((sizeV x, 0) = ((sizeE x).1, (sizeE x).2)) := by show _ = _; unfold sizeE; rw [HQ.out]; rfl
    go_wp2_with fail
    refine (size_any x _ _ hv2 (tame_of HQ.out)).mono ?_
    rintro e w3 ⟨rfl, hb3⟩
    go_wp2_with fail
    go_ret2
    exact ⟨ret_ii HE.out, bthen hbw2 hb3⟩

set_option maxHeartbeats 1000000 in
theorem inE_any (x : Var) (v : Val) (u : Value) (w : World) (h : IsVar (Lt w.heap.size) w u x) (hf : FitV v) :
    Calls Tryz.prog 29 #[u, valV v] w fun e w' => e = .returned (.tuple #[.bool (inE x v).1, .int .i64 (inE x v).2]) ∧ Below w.heap.size w w' := by
  have hv := h
  obtain ⟨iv, rfl, hnm, f1, f2, f3, hit⟩ := h
  obtain ⟨A, c, rfl, i1, i2, hit⟩ := hit.open_
  have hb0 := bone w (.cells #[.string x.name, .int .i64 x.kind, .int .i64 x.low, .int .i64 x.high, .slice A x.items.length c] 29)
  have hb := bbox hb0 (.cells #[.int .i64 v.kind, .int .i64 v.n, .string v.s] 23)
  have hB := (Blk.new w 29 #[.string x.name, .int .i64 x.kind, .int .i64 x.low, .int .i64 x.high, .slice A x.items.length c]).alloc (.cells #[.int .i64 v.kind, .int .i64 v.n, .string v.s] 23)
  have hC := Blk.new_at (t := 23) (cs := #[.int .i64 v.kind, .int .i64 v.n, .string v.s]) (w := w.alloc (.cells #[.string x.name, .int .i64 x.kind, .int .i64 x.low, .int .i64 x.high, .slice A x.items.length c] 29)) (s := w.heap.size + 1) (by simp)
  have hv1 := hv.now hb
  unfold valV
  go_enter Tryz.func29, Tryz.ntmps29
  go_wp2_with fail
  refine (validVar_any x _ _ hv1).mono ?_
  rintro e w2 ⟨rfl, hb2⟩
  have hB2 := hB.now hb2
  have hC2 := hC.now hb2
  have hv2 := hv1.now hb2
  have hbw2 := bthen hb hb2
  obtain ⟨q0, q1, q2, q3, q4⟩ := hB2.c5
  obtain ⟨y0, y1, y2⟩ := hC2.c3
  generalize hq : varB x = q
  have HQ := Lib.hid hq
  clear hq
  cases q
  · have HE : Hid ((false, 1) = ((inE x v).1, (inE x v).2)) := by show _ = _; unfold inE; rw [HQ.out]; rfl
    go_wp2_with fail
    go_ret2
    exact ⟨ret_bi HE.out, hbw2⟩
  · go_wp2_with fail
    refine (validV_any v _ hf).mono ?_
    rintro e w3 ⟨rfl, hb3⟩
    have hB3 := hB2.now hb3
    have hC3 := hC2.now hb3
    have hv3 := hv2.now hb3
    have hbw3 := bthen hbw2 hb3
    clear q0 q1 q2 q3 q4 y0 y1 y2
    obtain ⟨q0, q1, q2, q3, q4⟩ := hB3.c5
    obtain ⟨y0, y1, y2⟩ := hC3.c3
    generalize hp : validV v = p
    have HP := Lib.hid hp
    clear hp
    cases p
    · have HE : Hid ((false, 1) = ((inE x v).1, (inE x v).2)) := by show _ = _; unfold inE; rw [HQ.out, HP.out]; rfl
      go_wp2_with fail
      go_ret2
      exact ⟨ret_bi HE.out, hbw3⟩
    · have HE : Hid ((decide (0 ≤ placeV x v), 0) = ((inE x v).1, (inE x v).2)) := by show _ = _; unfold inE; rw [HQ.out, HP.out]; rfl
      go_wp2_with fail
      refine (place_any x v _ _ hv3 (tame_of HQ.out) hf).mono ?_
      rintro e w4 ⟨rfl, hb4⟩
      go_wp2_with fail
      go_ret2
      exact ⟨ret_bi HE.out, bthen hbw3 hb4⟩

set_option maxHeartbeats 1000000 in
theorem rankE_any (x : Var) (v : Val) (u : Value) (w : World) (h : IsVar (Lt w.heap.size) w u x) (hf : FitV v) :
    Calls Tryz.prog 32 #[u, valV v] w fun e w' => e = .returned (.tuple #[.int .i64 (rankE x v).1, .int .i64 (rankE x v).2]) ∧ Below w.heap.size w w' := by
  have hv := h
  obtain ⟨iv, rfl, hnm, f1, f2, f3, hit⟩ := h
  obtain ⟨A, c, rfl, i1, i2, hit⟩ := hit.open_
  have hb0 := bone w (.cells #[.string x.name, .int .i64 x.kind, .int .i64 x.low, .int .i64 x.high, .slice A x.items.length c] 29)
  have hb := bbox hb0 (.cells #[.int .i64 v.kind, .int .i64 v.n, .string v.s] 23)
  have hB := (Blk.new w 29 #[.string x.name, .int .i64 x.kind, .int .i64 x.low, .int .i64 x.high, .slice A x.items.length c]).alloc (.cells #[.int .i64 v.kind, .int .i64 v.n, .string v.s] 23)
  have hC := Blk.new_at (t := 23) (cs := #[.int .i64 v.kind, .int .i64 v.n, .string v.s]) (w := w.alloc (.cells #[.string x.name, .int .i64 x.kind, .int .i64 x.low, .int .i64 x.high, .slice A x.items.length c] 29)) (s := w.heap.size + 1) (by simp)
  have hv1 := hv.now hb
  unfold valV
  go_enter Tryz.func32, Tryz.ntmps32
  go_wp2_with fail
  refine (validVar_any x _ _ hv1).mono ?_
  rintro e w2 ⟨rfl, hb2⟩
  have hB2 := hB.now hb2
  have hC2 := hC.now hb2
  have hv2 := hv1.now hb2
  have hbw2 := bthen hb hb2
  obtain ⟨q0, q1, q2, q3, q4⟩ := hB2.c5
  obtain ⟨y0, y1, y2⟩ := hC2.c3
  generalize hq : varB x = q
  have HQ := Lib.hid hq
  clear hq
  cases q
  · have HE : Hid ((0, 1) = ((rankE x v).1, (rankE x v).2)) := by show _ = _; unfold rankE; rw [HQ.out]; rfl
    go_wp2_with fail
    go_ret2
    exact ⟨ret_ii HE.out, hbw2⟩
  · go_wp2_with fail
    refine (validV_any v _ hf).mono ?_
    rintro e w3 ⟨rfl, hb3⟩
    have hB3 := hB2.now hb3
    have hC3 := hC2.now hb3
    have hv3 := hv2.now hb3
    have hbw3 := bthen hbw2 hb3
    clear q0 q1 q2 q3 q4 y0 y1 y2
    obtain ⟨q0, q1, q2, q3, q4⟩ := hB3.c5
    obtain ⟨y0, y1, y2⟩ := hC3.c3
    generalize hp : validV v = p
    have HP := Lib.hid hp
    clear hp
    cases p
    · have HE : Hid ((0, 1) = ((rankE x v).1, (rankE x v).2)) := by show _ = _; unfold rankE; rw [HQ.out, HP.out]; rfl
      go_wp2_with fail
      go_ret2
      exact ⟨ret_ii HE.out, hbw3⟩
    · have HE : Hid ((rankE x v) = if placeV x v < 0 then (0, 11) else (placeV x v, 0)) := by show _ = _; unfold rankE; rw [HQ.out, HP.out]; rfl
      go_wp2_with fail
      refine (place_any x v _ _ hv3 (tame_of HQ.out) hf).mono ?_
      rintro e w4 ⟨rfl, hb4⟩
      generalize placeV x v = z at *
      by_cases hz : z < 0
      · go_wp2_with fail
        go_ret2
        exact ⟨ret_ii (by rw [HE.out, if_pos hz]), bthen hbw3 hb4⟩
      · go_wp2_with fail
        go_ret2
        exact ⟨ret_ii (by rw [HE.out, if_neg (by omega)]), bthen hbw3 hb4⟩

theorem Blk.set3 {w : World} {g : Nat} {t : TypeId} {a b c : Value} (h : Blk w g t #[a, b, c]) (x y z : Value) :
    Blk (((w.setCell ⟨g, 0, none⟩ x).setCell ⟨g, 1, none⟩ y).setCell ⟨g, 2, none⟩ z) g t #[x, y, z] := by
  have := ((h.set_ 0 x).set_ 1 y).set_ 2 z
  exact this
theorem bset3 {w w1 : World} {g : Nat} (h : Below w.heap.size w w1) (hg : w.heap.size ≤ g) (x y z : Value) :
    Below w.heap.size w (((w1.setCell ⟨g, 0, none⟩ x).setCell ⟨g, 1, none⟩ y).setCell ⟨g, 2, none⟩ z) :=
  ((h.setCell (p := ⟨g, 0, none⟩) hg x).setCell (p := ⟨g, 1, none⟩) hg y).setCell (p := ⟨g, 2, none⟩) hg z

set_option maxHeartbeats 1000000 in
theorem nthE_any (x : Var) (i : Int) (u : Value) (w : World) (h : IsVar (Lt w.heap.size) w u x) :
    Calls Tryz.prog 31 #[u, .int .i64 i] w fun e w' => e = .returned (.tuple #[valV (nthE x i).1, .int .i64 (nthE x i).2]) ∧ Below w.heap.size w w' := by
  have hv := h
  obtain ⟨iv, rfl, hnm, f1, f2, f3, hit⟩ := h
  obtain ⟨A, c, rfl, i1, i2, hit⟩ := hit.open_
  have hb0 := bone w (.cells #[.string x.name, .int .i64 x.kind, .int .i64 x.low, .int .i64 x.high, .slice A x.items.length c] 29)
  have hb := bbox hb0 (.cells #[.int .i64 0, .int .i64 0, .string ⟨#[]⟩] 23)
  have hB := (Blk.new w 29 #[.string x.name, .int .i64 x.kind, .int .i64 x.low, .int .i64 x.high, .slice A x.items.length c]).alloc (.cells #[.int .i64 0, .int .i64 0, .string ⟨#[]⟩] 23)
  have hC := Blk.new_at (t := 23) (cs := #[.int .i64 0, .int .i64 0, .string ⟨#[]⟩]) (w := w.alloc (.cells #[.string x.name, .int .i64 x.kind, .int .i64 x.low, .int .i64 x.high, .slice A x.items.length c] 29)) (s := w.heap.size + 1) (by simp)
  have hv1 := hv.now hb
  go_enter Tryz.func31, Tryz.ntmps31
  go_wp2_with fail
  refine (validVar_any x _ _ hv1).mono ?_
  rintro e w2 ⟨rfl, hb2⟩
  have hB2 := hB.now hb2
  have hC2 := hC.now hb2
  have hv2 := hv1.now hb2
  have hbw2 := bthen hb hb2
  obtain ⟨q0, q1, q2, q3, q4⟩ := hB2.c5
  obtain ⟨y0, y1, y2⟩ := hC2.c3
  have z0 := hC2.frozen 0
  have z1 := hC2.frozen 1
  have z2 := hC2.frozen 2
  generalize hq : varB x = q
  have HQ := Lib.hid hq
  clear hq
  cases q
  · have HE : Hid (nthE x i = (noV, 1)) := by show _ = _; unfold nthE; rw [HQ.out]; rfl
    go_wp2_with fail
    obtain ⟨t0, t1, t2⟩ := (hC2.set3 (.int .i64 0) (.int .i64 0) (.string ⟨#[]⟩)).c3
    refine bodyPost_ret (v := .tuple #[.agg #[.int .i64 0, .int .i64 0, .string ⟨#[]⟩], .int .i64 1]) (by simp [results, Tryz.results31, go_sem, t0, t1, t2]) rfl ?_
    exact ⟨by rw [HE.out]; rfl, bset3 hbw2 (by omega) _ _ _⟩
  · by_cases hi0 : i < 0
    · have HE : Hid (nthE x i = (noV, 2)) := by show _ = _; unfold nthE; rw [HQ.out, if_pos rfl, if_pos (Or.inl hi0)]
      go_wp2_with fail
      obtain ⟨t0, t1, t2⟩ := (hC2.set3 (.int .i64 0) (.int .i64 0) (.string ⟨#[]⟩)).c3
      refine bodyPost_ret (v := .tuple #[.agg #[.int .i64 0, .int .i64 0, .string ⟨#[]⟩], .int .i64 2]) (by simp [results, Tryz.results31, go_sem, t0, t1, t2]) rfl ?_
      exact ⟨by rw [HE.out]; rfl, bset3 hbw2 (by omega) _ _ _⟩
    go_wp2_with fail
    refine (size_any x _ _ hv2 (tame_of HQ.out)).mono ?_
    rintro e w3 ⟨rfl, hb3⟩
    have hB3 := hB2.now hb3
    have hC3 := hC2.now hb3
    have hv3 := hv2.now hb3
    have hbw3 := bthen hbw2 hb3
    clear q0 q1 q2 q3 q4 y0 y1 y2 z0 z1 z2
    obtain ⟨q0, q1, q2, q3, q4⟩ := hB3.c5
    obtain ⟨y0, y1, y2⟩ := hC3.c3
    have z0 := hC3.frozen 0
    have z1 := hC3.frozen 1
    have z2 := hC3.frozen 2
    have HSV := Lib.hid (rfl : sizeV x = sizeV x)
    generalize hs : sizeV x = sz at *
    have HS := Lib.hid hs
    clear hs
    by_cases hi1 : sz ≤ i
    · have HE : Hid (nthE x i = (noV, 2)) := by show _ = _; unfold nthE; rw [HQ.out, if_pos rfl, HS.out, if_pos (Or.inr hi1)]
      go_wp2_with fail
      obtain ⟨t0, t1, t2⟩ := (hC3.set3 (.int .i64 0) (.int .i64 0) (.string ⟨#[]⟩)).c3
      refine bodyPost_ret (v := .tuple #[.agg #[.int .i64 0, .int .i64 0, .string ⟨#[]⟩], .int .i64 2]) (by simp [results, Tryz.results31, go_sem, t0, t1, t2]) rfl ?_
      exact ⟨by rw [HE.out]; rfl, bset3 hbw3 (by omega) _ _ _⟩
    have HE : Hid (nthE x i = (nthV x i, 0)) := by show _ = _; unfold nthE; rw [HQ.out, if_pos rfl, HS.out, if_neg (by omega)]
    obtain ⟨n, rfl⟩ := Int.eq_ofNat_of_zero_le (by omega : 0 ≤ i)
    go_wp2_with fail
    refine (nth_any x n _ _ hv3 (tame_of HQ.out) (by rw [HS.out]; omega)).mono ?_
    rintro e w4 ⟨rfl, hb4⟩
    have hC4 := hC3.now hb4
    have hbw4 := bthen hbw3 hb4
    clear q0 q1 q2 q3 q4 y0 y1 y2 z0 z1 z2
    obtain ⟨y0, y1, y2⟩ := hC4.c3
    have z0 := hC4.frozen 0
    have z1 := hC4.frozen 1
    have z2 := hC4.frozen 2
    generalize nthV x n = nv at *
    unfold valV
    go_wp2_with fail
    obtain ⟨t0, t1, t2⟩ := (hC4.set3 (.int .i64 nv.kind) (.int .i64 nv.n) (.string nv.s)).c3
    refine bodyPost_ret (v := .tuple #[.agg #[.int .i64 nv.kind, .int .i64 nv.n, .string nv.s], .int .i64 0]) (by simp [results, Tryz.results31, go_sem, t0, t1, t2]) rfl ?_
    exact ⟨by rw [HE.out]; rfl, bset3 hbw4 (by omega) _ _ _⟩
end Go.Proofs.YtchfmjociflgfaaGreatDoor
