/- graph.Valid at a graph whose edges lie within. -/
import Derived.Test.YtlkkfkkhllijbaaDoorGrv
import Derived.Test.YtlkkfkkhllijbaaDoorPlaces
namespace Go.Proofs.YtlkkfkkhllijbaaDoor
open Go.RowKit

set_option maxHeartbeats 2000000 in
theorem vertex_any (N x : Nat) (A : Option Addr) (m c : Nat) (w : World) (hx : x < N) :
    Calls Tryd.prog 44 #[.agg #[.int .i64 (N : Int), .slice A m c], .int .i64 (x : Int)] w fun e w' => e = .returned (.bool true) ∧ Below w.heap.size w w' := by
  have h1 : (0 : Int) ≤ (x : Int) := by omega
  have h2 : (x : Int) < (N : Int) := by omega
  go_enter Tryd.func44, Tryd.ntmps44
  go_wp2_with fail
  go_ret
  exact ⟨rfl, bone _ _⟩
set_option maxHeartbeats 4000000 in
set_option maxRecDepth 100000 in
theorem gvalid_any (N : Nat) (es : List (Nat × Nat)) (A : Option Addr) (c : Nat) (w : World) (hes : SlE (Lt w.heap.size) w (.slice A es.length c) es) (hN : N ≤ 1000) (hl : es.length ≤ 20000) (hin : ∀ e ∈ es, e.1 < N ∧ e.2 < N) :
    Calls Tryd.prog 27 #[.agg #[.int .i64 (N : Int), .slice A es.length c]] w fun e w' => e = .returned (.bool true) ∧ Below w.heap.size w w' := by
  have HIN := Lib.hid hin
  clear hin
  have hb := bone w (.cells #[.int .i64 (N : Int), .slice A es.length c] 35)
  have hB := Blk.new w 35 #[.int .i64 (N : Int), .slice A es.length c]
  go_enter Tryd.func27, Tryd.ntmps27
  go_upto_region 1 with fail
  generalize hw1 : w.alloc (.cells #[.int .i64 (N : Int), .slice A es.length c] 35) = w1 at *
  clear hw1
  obtain ⟨q0, q1⟩ := hB.c2
  go_wp2_with fail
  go_loopw [22] (fun i wr => ∃ k : Nat, k ≤ es.length ∧ i = .int .i64 k ∧ Below w.heap.size w wr ∧ Blk wr w.heap.size 35 #[.int .i64 (N : Int), .slice A es.length c]) (fun i _ => es.length - (intOf i).toNat)
  case atStart => exact ⟨0, Nat.zero_le _, rfl, hb, hB⟩
  case round =>
    obtain ⟨k, hk, rfl, hbr, hBr⟩ := hrel
    clear q0 q1
    by_cases hlt : k < es.length
    rotate_left
    · go_wp2_with fail
      go_ret
      exact ⟨rfl, hbr⟩
    obtain ⟨b, o, e, rfl, hD, hx, c0, c1⟩ := (hes.now hbr).at_ hlt
    obtain ⟨i1, i2⟩ := HIN.out e (List.mem_of_getElem? hx)
    have a3 : (0 : Int) ≤ (k : Int) := by omega
    have a4 : (k : Int) < (es.length : Int) := by omega
    have hbo := bbox hbr (.cells #[.int .i64 (e.1 : Int), .int .i64 (e.2 : Int)] 36)
    have hE := Blk.new wr 36 #[.int .i64 (e.1 : Int), .int .i64 (e.2 : Int)]
    have hBo := hBr.alloc (.cells #[.int .i64 (e.1 : Int), .int .i64 (e.2 : Int)] 36)
    go_upto_region 6 with fail
    generalize hwo : wr.alloc (.cells #[.int .i64 (e.1 : Int), .int .i64 (e.2 : Int)] 36) = wo at *
    clear hwo hx c0 c1
    obtain ⟨q0, q1⟩ := hBo.c2
    obtain ⟨p0, p1⟩ := hE.c2
    go_wp2_with fail
    refine (vertex_any N e.1 _ _ _ _ i1).mono ?_
    rintro e' w3 ⟨rfl, hb3⟩
    have hB3 := hBo.now hb3
    have hE3 := hE.now hb3
    have hbo3 := bthen hbo hb3
    clear q0 q1 p0 p1 hBo hE hbo hb3
    obtain ⟨q0, q1⟩ := hB3.c2
    obtain ⟨p0, p1⟩ := hE3.c2
    go_wp2_with fail
    refine (vertex_any N e.2 _ _ _ _ i2).mono ?_
    rintro e' w4 ⟨rfl, hb4⟩
    have hB4 := hB3.now hb4
    have hbo4 := bthen hbo3 hb4
    go_wp2_with fail
    go_roundw
    case rel => exact ⟨k + 1, by omega, by go_num, hbo4, hB4⟩
    case measure => simp [intOf]; omega
end Go.Proofs.YtlkkfkkhllijbaaDoor
