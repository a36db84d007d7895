/- value.nth and the reference's Nth. -/
import Derived.Test.YtchfmjociflgfaaGreatDoorValPlace
namespace Go.Proofs.YtchfmjociflgfaaGreatDoor
open Go.RowKit

set_option maxHeartbeats 1000000 in
theorem nth_any (x : Var) (i : Nat) (u : Value) (w : World) (h : IsVar (Lt w.heap.size) w u x) (ht : Tame x) (hi : (i : Int) < sizeV x) :
    Calls Tryz.prog 65 #[u, .int .i64 i] w fun e w' => e = .returned (valV (nthV x i)) ∧ Below w.heap.size w w' := by
  obtain ⟨nm, k, lo, hi', its⟩ := x
  obtain ⟨⟨l1, l2⟩, ⟨l3, l4⟩, ld, lk, li⟩ := ht
  obtain ⟨iv, rfl, hnm, f1, f2, f3, hit⟩ := h
  dsimp only at hnm f1 f2 f3 hit l1 l2 l3 l4 ld lk li ⊢
  obtain ⟨A, c, rfl, i1, i2, hit⟩ := hit.open_
  rcases lk with rfl | rfl | rfl
  · have hi1 : (i : Int) < 2 := hi
    go_enter Tryz.func65, Tryz.ntmps65
    go_wp2_with fail
    obtain ⟨y0, y1, y2⟩ := (Blk.new_at (t := 23) (cs := #[.int .i64 1, .int .i64 i, .string ⟨#[]⟩]) (w := w.alloc (.cells #[.string nm, .int .i64 1, .int .i64 lo, .int .i64 hi', .slice A its.length c] 29)) (s := w.heap.size + 1) (by simp)).c3
    refine bodyPost_ret (v := .agg #[.int .i64 1, .int .i64 i, .string ⟨#[]⟩]) (by simp [results, Tryz.results65, go_sem, y0, y1, y2]) rfl ?_
    exact ⟨rfl, bbox (bone w _) _⟩
  · have hi1 : (i : Int) < hi' - lo + 1 := hi
    have hd := ld rfl
    go_enter Tryz.func65, Tryz.ntmps65
    go_wp2_with fail
    obtain ⟨y0, y1, y2⟩ := (Blk.new_at (t := 23) (cs := #[.int .i64 2, .int .i64 (i + lo), .string ⟨#[]⟩]) (w := w.alloc (.cells #[.string nm, .int .i64 2, .int .i64 lo, .int .i64 hi', .slice A its.length c] 29)) (s := w.heap.size + 1) (by simp)).c3
    refine bodyPost_ret (v := .agg #[.int .i64 2, .int .i64 (i + lo), .string ⟨#[]⟩]) (by simp [results, Tryz.results65, go_sem, y0, y1, y2]) rfl ?_
    exact ⟨rfl, bbox (bone w _) _⟩
  · have hi1 : (i : Int) < (its.length : Int) := hi
    obtain ⟨b, o, s, rfl, hD, hx, hf, hcell⟩ := hit.at_ (k := i) (by omega)
    have HG : Hid (its.getD i emptyS = s) := by show its.getD i emptyS = s; rw [List.getD_eq_getElem?_getD, hx]; rfl
    clear hx
    have hi2 : (0 : Int) ≤ i := by omega
    have hDb : b < w.heap.size := hD
    go_enter Tryz.func65, Tryz.ntmps65
    go_wp2_with fail
    obtain ⟨y0, y1, y2⟩ := (Blk.new_at (t := 23) (cs := #[.int .i64 3, .int .i64 0, .string s]) (w := w.alloc (.cells #[.string nm, .int .i64 3, .int .i64 lo, .int .i64 hi', .slice (some ⟨b, o, none⟩) its.length c] 29)) (s := w.heap.size + 1) (by simp)).c3
    refine bodyPost_ret (v := .agg #[.int .i64 3, .int .i64 0, .string s]) (by simp [results, Tryz.results65, go_sem, y0, y1, y2]) rfl ?_
    exact ⟨by rw [← HG.out]; rfl, bbox (bone w _) _⟩
theorem low_zero {x : Var} (h : varB x = true) (hk : x.kind ≠ 2) : x.low = 0 := by
  have hf : formB x = true := by unfold varB at h; simp only [Bool.and_eq_true] at h; exact h.2
  obtain ⟨nm, k, lo, hi, its⟩ := x
  by_cases k1 : k = 1
  · subst k1
    rw [form1] at hf
    simp only [decide_eq_true_eq] at hf
    exact hf.1
  by_cases k3 : k = 3
  · subst k3
    rw [form3] at hf
    simp only [Bool.and_eq_true, decide_eq_true_eq] at hf
    exact hf.1.1.1
  · rw [form0 k1 hk k3] at hf; cases hf

set_option maxHeartbeats 1000000 in
theorem nth_ref (x : Var) (i : Nat) (u : Value) (w : World) (h : IsVar (Lt w.heap.size) w u x) (ht : Tame x) (hz : x.kind = 1 → x.low = 0) (hi : (i : Int) < sizeV x) :
    Calls Tryz.prog 34 #[u, .int .i64 i] w fun e w' => e = .returned (valV (nthV x i)) ∧ Below w.heap.size w w' := by
  obtain ⟨nm, k, lo, hi', its⟩ := x
  obtain ⟨⟨l1, l2⟩, ⟨l3, l4⟩, ld, lk, li⟩ := ht
  obtain ⟨iv, rfl, hnm, f1, f2, f3, hit⟩ := h
  dsimp only at hnm f1 f2 f3 hit l1 l2 l3 l4 ld lk li hz ⊢
  obtain ⟨A, c, rfl, i1, i2, hit⟩ := hit.open_
  rcases lk with rfl | rfl | rfl
  · have hi1 : (i : Int) < 2 := hi
    obtain rfl : lo = 0 := hz rfl
    clear hz
    go_enter Tryz.func34, Tryz.ntmps34
    go_wp2_with fail
    obtain ⟨y0, y1, y2⟩ := (Blk.new_at (t := 23) (cs := #[.int .i64 1, .int .i64 i, .string ⟨#[]⟩]) (w := w.alloc (.cells #[.string nm, .int .i64 1, .int .i64 0, .int .i64 hi', .slice A its.length c] 29)) (s := w.heap.size + 1) (by simp)).c3
    refine bodyPost_ret (v := .agg #[.int .i64 1, .int .i64 i, .string ⟨#[]⟩]) (by simp [results, Tryz.results34, go_sem, y0, y1, y2]) rfl ?_
    exact ⟨rfl, bbox (bone w _) _⟩
  · have hi1 : (i : Int) < hi' - lo + 1 := hi
    have hd := ld rfl
    clear hz
    go_enter Tryz.func34, Tryz.ntmps34
    go_wp2_with fail
    obtain ⟨y0, y1, y2⟩ := (Blk.new_at (t := 23) (cs := #[.int .i64 2, .int .i64 (lo + i), .string ⟨#[]⟩]) (w := w.alloc (.cells #[.string nm, .int .i64 2, .int .i64 lo, .int .i64 hi', .slice A its.length c] 29)) (s := w.heap.size + 1) (by simp)).c3
    refine bodyPost_ret (v := .agg #[.int .i64 2, .int .i64 (lo + i), .string ⟨#[]⟩]) (by simp [results, Tryz.results34, go_sem, y0, y1, y2]) rfl ?_
    exact ⟨by rw [Int.add_comm]; rfl, bbox (bone w _) _⟩
  · have hi1 : (i : Int) < (its.length : Int) := hi
    clear hz
    obtain ⟨b, o, s, rfl, hD, hx, hf, hcell⟩ := hit.at_ (k := i) (by omega)
    have HG : Hid (its.getD i emptyS = s) := by show its.getD i emptyS = s; rw [List.getD_eq_getElem?_getD, hx]; rfl
    clear hx
    have hi2 : (0 : Int) ≤ i := by omega
    have hDb : b < w.heap.size := hD
    go_enter Tryz.func34, Tryz.ntmps34
    go_wp2_with fail
    obtain ⟨y0, y1, y2⟩ := (Blk.new_at (t := 23) (cs := #[.int .i64 3, .int .i64 0, .string s]) (w := w.alloc (.cells #[.string nm, .int .i64 3, .int .i64 lo, .int .i64 hi', .slice (some ⟨b, o, none⟩) its.length c] 29)) (s := w.heap.size + 1) (by simp)).c3
    refine bodyPost_ret (v := .agg #[.int .i64 3, .int .i64 0, .string s]) (by simp [results, Tryz.results34, go_sem, y0, y1, y2]) rfl ?_
    exact ⟨by rw [← HG.out]; rfl, bbox (bone w _) _⟩
end Go.Proofs.YtchfmjociflgfaaGreatDoor
