/- petri.one, petri.Initial, petri.Final. -/
import Derived.Test.YtlkkfkkhllijbaaDoorOwnF
import Derived.Test.YtlkkfkkhllijbaaDoorFire
namespace Go.Proofs.YtlkkfkkhllijbaaDoor
open Go.RowKit

theorem insideOk {n : Net} (h : validB n = true) : (0 ≤ n.source ∧ n.source < n.places) ∧ (0 ≤ n.sink ∧ n.sink < n.places) := by
  unfold validB inside at h
  simp only [Bool.and_eq_true, decide_eq_true_eq] at h
  exact ⟨h.1.2, h.2⟩
def oneB (n : Net) (p : Int) : List Int := (List.replicate n.places.toNat 0).set p.toNat 1
def oneE (n : Net) (p : Int) : List Int × Int := if validB n = false then ([], 1) else (oneB n p, 0)
theorem intInfo : (Tryd.prog.info? 3).map (fun i => (i.zero, i.size, i.bytes)) = some (some (.int .i64 0), 1, 8) := by kernel_rfl
theorem boolInfo : (Tryd.prog.info? 4).map (fun i => (i.zero, i.size, i.bytes)) = some (some (.bool false), 1, 1) := by kernel_rfl

set_option maxHeartbeats 1000000 in
theorem one_any (n : Net) (v : Value) (p : Int) (w : World) (h : IsNet (Lt w.heap.size) w v n) (hpp : validB n = true → 0 ≤ p ∧ p < n.places) :
    Calls Tryd.prog 34 #[v, .int .i64 p] w (RetIE (oneE n p).1 (oneE n p).2 w) := by
  have h0 := h
  obtain ⟨tv, rfl, hp, hs, hkk, ht⟩ := h
  obtain ⟨A, c, rfl, h1, h2, ht⟩ := ht.open_
  go_enter Tryd.func34, Tryd.ntmps34
  go_wp2_with fail
  have hb := bone w (Obj.cells #[Value.int IntKind.i64 n.places, Value.slice A n.trans.length c, Value.int IntKind.i64 n.source, Value.int IntKind.i64 n.sink] 24)
  refine (valid_any n _ _ (h0.now hb)).mono ?_
  rintro e w1 ⟨rfl, hb1⟩
  have hbw := bthen hb hb1
  have hB1 := (Blk.new w 24 #[.int .i64 n.places, .slice A n.trans.length c, .int .i64 n.source, .int .i64 n.sink]).now hb1
  generalize hq : validB n = q
  have HV := Lib.hid hq
  clear hq
  cases q
  · have HE : Hid (oneE n p = ([], 1)) := by show oneE n p = _; unfold oneE; rw [HV.out]; rfl
    go_wp2_with fail
    go_ret2
    rw [HE.out]
    exact ⟨_, rfl, Sl.none_, hbw⟩
  have HE : Hid (oneE n p = (oneB n p, 0)) := by show oneE n p = _; unfold oneE; rw [HV.out]; rfl
  obtain ⟨v1, v2, v3, v4⟩ := validOk HV.out
  obtain ⟨p1, p2⟩ := hpp HV.out
  clear v4 hpp
  obtain ⟨q0, q1, q2, q3⟩ := hB1.c4
  obtain ⟨P, hP⟩ := Int.eq_ofNat_of_zero_le (show 0 ≤ n.places by omega)
  obtain ⟨k, rfl⟩ := Int.eq_ofNat_of_zero_le p1
  have hkP : k < P := by omega
  rw [hP] at q0
  have hmk := run_make_n (P := Tryd.prog) 28 3 (.int .i64 0) 8 Tryd.underlying28 intInfo P (by omega) (by omega) rfl
  have hown := OwnF.made (f := Value.int .i64) w1 3 P 0 (by unfold maxLen; omega)
  have hcell := hown.cell (k := k) (x := 0) (by simp [hkP])
  have hfro := hown.frozen k
  have HO : Hid (oneB n (k : Int) = (List.replicate P 0).set k 1) := by show oneB n _ = _; unfold oneB; rw [hP]; rfl
  have HPl := Lib.hid hP
  clear hP
  go_wp2_with fail
  go_ret2
  rw [HE.out, HO.out]
  have hf := hown.set_ k 1
  refine ⟨_, rfl, ?_, bbox hbw _⟩
  have := hf.slI (fun z hz => by
    rcases List.mem_or_eq_of_mem_set hz with h | h
    · rw [List.mem_replicate] at h; rw [h.2]; unfold Fit; omega
    · rw [h]; unfold Fit; omega)
  rw [setCell_new] at this
  simpa using this

set_option maxHeartbeats 400000 in
theorem initial_any (n : Net) (v : Value) (w : World) (h : IsNet (Lt w.heap.size) w v n) :
    Calls Tryd.prog 14 #[v] w (RetIE (oneE n n.source).1 (oneE n n.source).2 w) := by
  have h0 := h
  obtain ⟨tv, rfl, hp, hs, hkk, ht⟩ := h
  obtain ⟨A, c, rfl, h1, h2, ht⟩ := ht.open_
  go_enter Tryd.func14, Tryd.ntmps14
  go_wp2_with fail
  have hb := bone w (Obj.cells #[Value.int IntKind.i64 n.places, Value.slice A n.trans.length c, Value.int IntKind.i64 n.source, Value.int IntKind.i64 n.sink] 24)
  refine (one_any n _ n.source _ (h0.now hb) (fun hv => (insideOk hv).1)).mono ?_
  rintro e w1 ⟨v', rfl, hsl, hb1⟩
  generalize oneE n n.source = r at *
  go_wp2_with fail
  go_ret2
  exact ⟨_, rfl, hsl, bthen hb hb1⟩

end Go.Proofs.YtlkkfkkhllijbaaDoor
