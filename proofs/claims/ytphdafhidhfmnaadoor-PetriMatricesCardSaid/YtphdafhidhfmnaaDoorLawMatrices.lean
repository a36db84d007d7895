/- PetriMatrices: Incidence returns what is specified, for every input. The walk of the law. -/
import Derived.Test.YtphdafhidhfmnaaDoorAwake
import Derived.Test.YtphdafhidhfmnaaDoorGreat
import Derived.Test.YtphdafhidhfmnaaDoorIncRef
import Derived.Test.YtphdafhidhfmnaaDoorSame
namespace Go.Proofs.YtphdafhidhfmnaaDoor
open Go.RowKit

set_option maxHeartbeats 4000000 in
set_option maxRecDepth 100000 in
theorem lawMatrices (n : Net) (v : Value) (w : World) (h : IsNet (Lt w.heap.size) w v n) :
    Calls Tryd.prog 7 #[v] w fun e w' => e = .returned (.bool true) ∧ Below w.heap.size w w' := by
  have h0 := h
  obtain ⟨tv, rfl, hp, hs, hkk, ht⟩ := h
  obtain ⟨A, c, rfl, h1, h2, ht⟩ := ht.open_
  go_enter Tryd.func7, Tryd.ntmps7
  go_wp2_with fail
  have hb := bone w (Obj.cells #[Value.int IntKind.i64 n.places, Value.slice A n.trans.length c, Value.int IntKind.i64 n.source, Value.int IntKind.i64 n.sink] 24)
  have hB := Blk.new w 24 #[.int .i64 n.places, .slice A n.trans.length c, .int .i64 n.source, .int .i64 n.sink]
  refine (awake_any _).mono ?_
  rintro e w1 ⟨rfl, hb1⟩
  have hb2 := bthen hb hb1
  have hB1 := hB.now hb1
  obtain ⟨q0, q1, q2, q3⟩ := hB1.c4
  clear hb hB hb1
  go_wp2_with fail
  refine (great_any n _ _ (h0.now hb2)).mono ?_
  rintro e w2 ⟨rfl, hb3⟩
  have hb4 := bthen hb2 hb3
  have hB2 := hB1.now hb3
  clear q0 q1 q2 q3 hB1 hb2 hb3
  obtain ⟨q0, q1, q2, q3⟩ := hB2.c4
  generalize greatB n = g
  cases g
  rotate_left
  · go_wp2_with fail
    go_ret
    exact ⟨rfl, hb4⟩
  go_wp2_with fail
  refine (inc_any n _ _ (h0.now hb4)).mono ?_
  rintro e w3 ⟨x1, rfl, hx1, hb5⟩
  have hb6 := bthen hb4 hb5
  have hB3 := hB2.now hb5
  clear q0 q1 q2 q3 hB2 hb4 hb5
  obtain ⟨q0, q1, q2, q3⟩ := hB3.c4
  go_wp2_with fail
  refine (inc_ref n _ _ (h0.now hb6)).mono ?_
  rintro e w4 ⟨x2, rfl, hx2, hb7⟩
  have hb8 := bthen hb6 hb7
  have hx1a := hx1.now hb7
  clear q0 q1 q2 q3 hB3 hb6 hb7 hx1
  have HM : Hid ((incE n).2 = 0 → matB (incE n).1 = true) := by
    intro hz
    unfold incE at hz ⊢
    split at hz
    · simp at hz
    · rename_i hv
      split at hz
      · simp at hz
      · rename_i hc
        rw [if_neg hv, if_neg hc]
        obtain ⟨v1, _, _, _⟩ := validOk (n := n) (by simpa using hv)
        exact inc_mat v1 (by omega) (by omega) (by omega)
  generalize incE n = F at *
  obtain ⟨M, cc⟩ := F
  dsimp only at hx1a hx2 HM ⊢
  obtain ⟨A1, c1, rfl, a1, a2, hx1a⟩ := hx1a.open_
  obtain ⟨A2, c2, rfl, a3, a4, hx2⟩ := hx2.open_
  go_wp2_with fail
  refine (same_any _ _ M M _ hx1a hx2).mono ?_
  rintro e w5 ⟨rfl, q, rfl⟩
  rw [beq_self_eq_true]
  have hb9 := bdrawn hb8 q
  have hx3 : SlII (Lt (w4.drewN q).heap.size) (w4.drewN q) (.slice A1 M.length c1) M := hx1a
  generalize w4.drewN q = w6 at *
  clear hx1a hx2 hb8
  have t1 : (cc == cc) = true := by simp
  by_cases hc0 : cc = 0
  · have t2 : (cc != 0) = false := by simpa using hc0
    have HMM := Lib.hid (HM.out hc0)
    clear hc0 HM
    go_wp2_with fail
    refine (mvalid_any _ M _ hx3).mono ?_
    rintro e w7 ⟨rfl, hb10⟩
    rw [HMM.out]
    go_wp2_with fail
    go_ret
    exact ⟨rfl, bthen hb9 hb10⟩
  · have t2 : (cc != 0) = true := by simpa using hc0
    clear hc0 HM
    go_wp2_with fail
    go_ret
    exact ⟨rfl, hb9⟩
end Go.Proofs.YtphdafhidhfmnaaDoor
