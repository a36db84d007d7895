/- PetriRuns: Run and Word return what is specified, for every input. The walk of the law, out of the contracts of all that it calls. -/
import Derived.Test.YtphdafhidhfmnaaDoorAwake
import Derived.Test.YtphdafhidhfmnaaDoorRunRef
import Derived.Test.YtphdafhidhfmnaaDoorGreat
namespace Go.Proofs.YtphdafhidhfmnaaDoor
open Go.RowKit

set_option maxHeartbeats 2000000 in
theorem lawRuns (n : Net) (v mv lv : Value) (m l : List Int) (w : World) (h : IsNet (Lt w.heap.size) w v n) (hm : SlI (Lt w.heap.size) w mv m) (hl : SlI (Lt w.heap.size) w lv l) :
    Calls Tryd.prog 3 #[v, mv, lv] w fun e w' => e = .returned (.bool true) ∧ Below w.heap.size w w' := by
  have h0 := h
  obtain ⟨tv, rfl, hp, hs, hkk, ht⟩ := h
  obtain ⟨A, c, rfl, h1, h2, ht⟩ := ht.open_
  obtain ⟨Al, cl, rfl, l1, l2, hl⟩ := hl.open_
  obtain ⟨Am, cm, rfl, m1, m2, hm⟩ := hm.open_
  go_enter Tryd.func3, Tryd.ntmps3
  go_wp2_with fail
  have hb := bone w (Obj.cells #[Value.int IntKind.i64 n.places, Value.slice A n.trans.length c, Value.int IntKind.i64 n.source, Value.int IntKind.i64 n.sink] 24)
  have hB := Blk.new w 24 #[.int .i64 n.places, .slice A n.trans.length c, .int .i64 n.source, .int .i64 n.sink]
  refine (awake_any _).mono ?_
  rintro e w1 ⟨rfl, hb1⟩
  have hb2 := bthen hb hb1
  have hB1 := hB.now hb1
  obtain ⟨q0, q1, q2, q3⟩ := hB1.c4
  clear hb hB hb1
  go_wp2_with fail
  refine (great_any n _ _ (h0.now hb2)).mono ?_
  rintro e w2 ⟨rfl, hb3⟩
  have hb4 := bthen hb2 hb3
  have hB2 := hB1.now hb3
  clear q0 q1 q2 q3 hB1 hb2 hb3
  obtain ⟨q0, q1, q2, q3⟩ := hB2.c4
  generalize greatB n = g
  by_cases hout : g = true ∨ 60 < m.length ∨ (60 < l.length ∧ l.length ≤ 1000) ∨ 3000 < l.length
  · rcases hout with hg | hout
    · subst hg
      go_wp2_with fail
      go_ret
      exact ⟨rfl, hb4⟩
    · cases g
      · by_cases hmm : 60 < m.length
        · go_wp2_with fail
          go_ret
          exact ⟨rfl, hb4⟩
        · by_cases h60 : 60 < l.length
          · by_cases h1000 : l.length ≤ 1000
            · go_wp2_with fail
              go_ret
              exact ⟨rfl, hb4⟩
            · have h3000 : 3000 < l.length := by omega
              clear hout
              go_wp2_with fail
              go_ret
              exact ⟨rfl, hb4⟩
          · exfalso; omega
      · go_wp2_with fail
        go_ret
        exact ⟨rfl, hb4⟩
  have hg : g = false := by cases g <;> simp_all
  subst hg
  have hm60 : ¬ 60 < m.length := fun h => hout (by simp [h])
  have hl3 : ¬ 3000 < l.length := fun h => hout (by simp [h])
  have hl6 : ¬ (60 < l.length ∧ l.length ≤ 1000) := fun h => hout (by simp [h])
  clear hout
  by_cases h60 : 60 < l.length
  have h1000 : ¬ l.length ≤ 1000 := by omega
  all_goals
    clear hl6
    go_wp2_with fail
    refine (run_any n _ _ _ m l _ (h0.now hb4) (hm.now hb4) (hl.now hb4)).mono ?_
    rintro e w3 ⟨x1, rfl, hx1, hb5⟩
    have hb6 := bthen hb4 hb5
    have hB3 := hB2.now hb5
    obtain ⟨r0, r1, r2, r3⟩ := hB3.c4
    go_wp2_with fail
    refine (run_ref n _ _ _ m l _ (h0.now hb6) (hm.now hb6) (hl.now hb6)).mono ?_
    rintro e w4 ⟨x2, rfl, hx2, hb7⟩
    have hb8 := bthen hb6 hb7
    have hB4 := hB3.now hb7
    obtain ⟨s0, s1, s2, s3⟩ := hB4.c4
    have hx1b := hx1.now hb7
    go_wp2_with fail
    refine (word_any n _ _ l _ (h0.now hb8) (hl.now hb8)).mono ?_
    rintro e w5 ⟨x3, rfl, hx3, hb9⟩
    have hb10 := bthen hb8 hb9
    have hB5 := hB4.now hb9
    obtain ⟨t0, t1, t2, t3⟩ := hB5.c4
    go_wp2_with fail
    refine (word_ref n _ _ l _ (h0.now hb10) (hl.now hb10)).mono ?_
    rintro e w6 ⟨x4, rfl, hx4, hb11⟩
    have hb12 := bthen hb10 hb11
    have hx1c := (hx1b.now hb9).now hb11
    have hx2c := (hx2.now hb9).now hb11
    have hx3c := hx3.now hb11
    clear q0 q1 q2 q3 r0 r1 r2 r3 s0 s1 s2 s3 t0 t1 t2 t3 hx1 hx1b hx2 hx3
    generalize runB n m l = R at *
    generalize wordB n l = Wd at *
    go_wp2_with fail
    refine (equalI _ _ R.1 R.1 _ hx1c hx2c).mono ?_
    rintro e w7 ⟨rfl, q, rfl⟩
    rw [beq_self_eq_true]
    have hx3d : SlS (Lt (w6.drewN q).heap.size) (w6.drewN q) x3 Wd.1 := hx3c
    have hx4d : SlS (Lt (w6.drewN q).heap.size) (w6.drewN q) x4 Wd.1 := hx4
    have hb13 := bdrawn hb12 q
    generalize w6.drewN q = w8 at *
    have e1 : (((R.2.1 : Nat) : Int) == ((R.2.1 : Nat) : Int)) = true := beq_self_eq_true _
    have e2 : (R.2.2 == R.2.2) = true := beq_self_eq_true _
    have e3 : (Wd.2 == Wd.2) = true := beq_self_eq_true _
    go_wp2_with fail
    refine (equalS _ _ Wd.1 Wd.1 _ hx3d hx4d).mono ?_
    rintro e w9 ⟨rfl, q', rfl⟩
    rw [decide_eq_true rfl]
    go_wp2_with fail
    go_ret
    exact ⟨rfl, bdrawn hb13 q'⟩
end Go.Proofs.YtphdafhidhfmnaaDoor
