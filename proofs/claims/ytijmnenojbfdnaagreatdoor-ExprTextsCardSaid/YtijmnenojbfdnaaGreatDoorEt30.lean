/- Texts of this seat, merged. -/
import Derived.Test.YtijmnenojbfdnaaGreatDoorEt01
import Derived.Test.YtijmnenojbfdnaaGreatDoorEt02
import Derived.Test.YtijmnenojbfdnaaGreatDoorEt03
import Derived.Test.YtijmnenojbfdnaaGreatDoorEt04
import Derived.Test.YtijmnenojbfdnaaGreatDoorEt05
import Derived.Test.YtijmnenojbfdnaaGreatDoorEt06
import Derived.Test.YtijmnenojbfdnaaGreatDoorEt07
import Derived.Test.YtijmnenojbfdnaaGreatDoorEt08
import Derived.Test.YtijmnenojbfdnaaGreatDoorEt09
import Derived.Test.YtijmnenojbfdnaaGreatDoorEt10
import Derived.Test.YtijmnenojbfdnaaGreatDoorEt11
import Derived.Test.YtijmnenojbfdnaaGreatDoorEt12
import Derived.Test.YtijmnenojbfdnaaGreatDoorEt13
import Derived.Test.YtijmnenojbfdnaaGreatDoorEt14
import Derived.Test.YtijmnenojbfdnaaGreatDoorEt15
import Derived.Test.YtijmnenojbfdnaaGreatDoorEt16
import Derived.Test.YtijmnenojbfdnaaGreatDoorEt17
import Derived.Test.YtijmnenojbfdnaaGreatDoorEt18
import Derived.Test.YtijmnenojbfdnaaGreatDoorEt19
import Derived.Test.YtijmnenojbfdnaaGreatDoorEt20
import Derived.Test.YtijmnenojbfdnaaGreatDoorEt29
set_option linter.unusedSimpArgs false
set_option linter.unusedVariables false
namespace Go.Proofs.YtijmnenojbfdnaaGreatDoor
open Go.RowKit
set_option maxHeartbeats 4000000 in
set_option maxRecDepth 100000 in
theorem writeR_if (n : Nat) (hIH : ∀ k, k < n → WriteR k) (u : Value) (x : Ex) (asks : Nat) (w : World) (base : Nat) (v : Value) (l : List UInt8) (h2 : x.op = 12) (hlt : ¬ levB x.op.toNat < asks) (hok : okX x = true) (h1 : x.l.length = 3) (hown : OwnC w base v l) (hbase : base ≤ w.heap.size) (hx : IsEx n (Lt base) w u x)
    (hlen : l.length + (txB (n + 1) x asks).length ≤ 1000000) :
    Calls Tryz.prog 58 #[v, u, .int .i64 (asks : Int)] w (RetAdds base w v (l ++ txB (n + 1) x asks)) := by
  have ht : txB (n + 1) x asks = [105, 102, 32] ++ txB n (kAt x.l 0) 1 ++ [32, 116, 104, 101, 110, 32] ++ txB n (kAt x.l 1) 1 ++ [32, 101, 108, 115, 101, 32] ++ txB n (kAt x.l 2) 1 := by
    unfold txB
    dsimp only
    rw [if_neg hlt, if_neg (by omega), if_neg (by omega), if_neg (by omega), if_pos h2]
    cases n <;> rfl
  rw [ht] at hlen ⊢
  obtain ⟨lv, rfl, _, Ax, cx, rfl⟩ := hx.cells
  rw [h2] at hlt ⊢
  have hlv : ¬ (levB 12 : Int) < (asks : Int) := by have : levB (12 : Int).toNat = levB 12 := rfl; omega
  have HL2 := Lib.hid (fun W => level_ref 12 W (by omega) (by omega))
  obtain ⟨bb, oo, y0, A0, c0, rfl, hbb, hky0, p00, p01, p02, p03, p04, p05, hc0⟩ := part_rat hIH (okX_l hok) (ex_slice hx) (k := 0) (by omega)
  obtain ⟨b', o', y1, A1, c1, e, _, hky1, p10, p11, p12, p13, p14, p15, hc1⟩ := part_rat hIH (okX_l hok) (ex_slice hx) (k := 1) (by omega)
  injection e with e
  injection e with e1 e2 _
  subst e1 e2
  obtain ⟨b', o', y2, A2, c2, e, _, hky2, p20, p21, p22, p23, p24, p25, hc2⟩ := part_rat hIH (okX_l hok) (ex_slice hx) (k := 2) (by omega)
  injection e with e
  injection e with e1 e2 _
  subst e1 e2
  have hb1 := bone w (.cells #[.int .i64 12, .int .i64 x.v.kind, .int .i64 x.v.n, .string x.v.s, .string x.s, .slice (some ⟨bb, oo, none⟩) x.l.length cx] 28)
  have hN1 := Blk.new w 28 #[.int .i64 12, .int .i64 x.v.kind, .int .i64 x.v.n, .string x.v.s, .string x.s, .slice (some ⟨bb, oo, none⟩) x.l.length cx]
  have hBb1 : Below base w _ := hb1.mono hbase
  have hBw1 := Nat.le_trans hbase hb1.size
  have hown1 := hown.now hb1
  have hR1 := (Adds.refl hown).post hb1
  have hcell : ∀ o, (w.alloc (.cells #[.int .i64 12, .int .i64 x.v.kind, .int .i64 x.v.n, .string x.v.s, .string x.s, .slice (some ⟨bb, oo, none⟩) x.l.length cx] 28)).cell? ⟨bb, o, none⟩ = w.cell? ⟨bb, o, none⟩ := fun o => hBb1.cell (p := ⟨bb, o, none⟩) hbb
  rw [← hcell, Nat.zero_mul, Nat.add_zero] at p00 p01 p02 p03 p04 p05
  rw [Nat.one_mul] at p10 p11 p12 p13 p14 p15
  simp only [Nat.reduceMul, Nat.add_assoc, Nat.reduceAdd] at p10 p11 p12 p13 p14 p15 p20 p21 p22 p23 p24 p25
  rw [hky0, hky1, hky2] at hlen ⊢
  have i0 : (0 : Int) < (x.l.length : Int) := by omega
  have i1 : (1 : Int) < (x.l.length : Int) := by omega
  have i2 : (2 : Int) < (x.l.length : Int) := by omega
  have hk0 : 0 < x.l.length := by omega
  have hk1 : 1 < x.l.length := by omega
  have hk2 : 2 < x.l.length := by omega
  have HLN := Lib.hid hlen
  have HC0 := Lib.hid hc0
  have HC1 := Lib.hid hc1
  have HC2 := Lib.hid hc2
  clear ht h2 hlt hlen hc0 hc1 hc2 hky0 hky1 hky2 hx hcell h1 hown hb1
  go_enter Tryz.func58, Tryz.ntmps58
  obtain ⟨n0, n1, n2, n3, n4, n5⟩ := hN1.c6
  go_wp2_with fail
  refine (HL2.out _).mono ?_
  rintro e w2 ⟨rfl, rfl⟩
  go_wp2_with fail
  refine (HL2.out _).mono ?_
  rintro e w2 ⟨rfl, rfl⟩
  clear HL2
  generalize hw1 : (w.alloc (.cells #[.int .i64 12, .int .i64 x.v.kind, .int .i64 x.v.n, .string x.v.s, .string x.s, .slice (some ⟨bb, oo, none⟩) x.l.length cx] 28)) = w1 at *
  clear hw1
  go_wp2_with fail
  refine wp_region_held_tail 6 (fun W => W.cell? ⟨w.heap.size, 5, none⟩ = some (.slice (some ⟨bb, oo, none⟩) x.l.length cx) ∧ W.cell? ⟨bb, oo, none⟩ = some (.int .i64 y0.op) ∧ W.cell? ⟨bb, oo + 1, none⟩ = some (.int .i64 y0.v.kind) ∧ W.cell? ⟨bb, oo + 2, none⟩ = some (.int .i64 y0.v.n) ∧ W.cell? ⟨bb, oo + 3, none⟩ = some (.string y0.v.s) ∧ W.cell? ⟨bb, oo + 4, none⟩ = some (.string y0.s) ∧ W.cell? ⟨bb, oo + 5, none⟩ = some (.slice A0 y0.l.length c0)) (by kernel_rfl) (by kernel_rfl) ⟨n5, p00, p01, p02, p03, p04, p05⟩ (fun hHeld => ?_)
  simp only [List.take_succ_cons, List.take_zero]
  refine takeL (v := ?v52_0) 0 rfl (by kernel_rfl) (by kernel_rfl) (by kernel_rfl) (fun _ _ _ h => h) rfl ?hy52_0 hHeld ?rest52_0
  case hy52_0 => (intro W hW; obtain ⟨k5, k6, k7, k8, k9, k10, k11⟩ := hW; go_simp <;> first | rfl | (rw [if_pos hk0]; rfl))
  simp only [Act.put, List.setIfInBounds_toArray, List.set_cons_zero, List.set_cons_succ]
  refine takeL (v := ?v52_2) 2 rfl (by kernel_rfl) (by kernel_rfl) (by kernel_rfl) (fun _ _ _ h => h) rfl ?hy52_2 hHeld ?rest52_2
  case hy52_2 => (intro W hW; obtain ⟨k5, k6, k7, k8, k9, k10, k11⟩ := hW; go_simp <;> first | rfl | (rw [if_pos hk0]; rfl))
  simp only [Act.put, List.setIfInBounds_toArray, List.set_cons_zero, List.set_cons_succ]
  refine takeL (v := ?v52_3) 3 rfl (by kernel_rfl) (by kernel_rfl) (by kernel_rfl) (fun _ _ _ h => h) rfl ?hy52_3 hHeld ?rest52_3
  case hy52_3 => (intro W hW; obtain ⟨k5, k6, k7, k8, k9, k10, k11⟩ := hW; go_simp <;> first | rfl | (rw [if_pos hk0]; rfl))
  simp only [Act.put, List.setIfInBounds_toArray, List.set_cons_zero, List.set_cons_succ]
  refine takeL (v := ?v52_4) 4 rfl (by kernel_rfl) (by kernel_rfl) (by kernel_rfl) (fun _ _ _ h => h) rfl ?hy52_4 hHeld ?rest52_4
  case hy52_4 => (intro W hW; obtain ⟨k5, k6, k7, k8, k9, k10, k11⟩ := hW; go_simp <;> first | rfl | (rw [if_pos hk0]; rfl))
  simp only [Act.put, List.setIfInBounds_toArray, List.set_cons_zero, List.set_cons_succ]
  refine takeL (v := ?v52_5) 5 rfl (by kernel_rfl) (by kernel_rfl) (by kernel_rfl) (fun _ _ _ h => h) rfl ?hy52_5 hHeld ?rest52_5
  case hy52_5 => (intro W hW; obtain ⟨k5, k6, k7, k8, k9, k10, k11⟩ := hW; go_simp <;> first | rfl | (rw [if_pos hk0]; rfl))
  simp only [Act.put, List.setIfInBounds_toArray, List.set_cons_zero, List.set_cons_succ]
  refine onlyL 1 rfl rfl (by kernel_rfl) (fun K hK => ?_)
  have hownd : OwnC w1.drew base v _ := hown1
  have hNd : Blk w1.drew w.heap.size 28 #[.int .i64 12, .int .i64 x.v.kind, .int .i64 x.v.n, .string x.v.s, .string x.s, .slice (some ⟨bb, oo, none⟩) x.l.length cx] := hN1
  have hBd : Below base w w1.drew := hBb1.drew
  have hBwd : base ≤ w1.drew.heap.size := hBw1
  have hpre : Adds base w v _ w1.drew v := ⟨hownd, grown_drewN' hR1.grown 1, hR1.hat⟩
  obtain ⟨_, d0, d1, d2, d3, d4, d5⟩ := hHeld
  clear hR1 hown1 hN1 hBb1 hBw1 n0 n1 n2 n3 n4 n5 p00 p01 p02 p03 p04 p05
  generalize w1.drew = wd at *
  refine wp_appendStr (v := v) (.tmp 52) (.const (.string ⟨#[105, 102, 32]⟩)) rfl rfl hownd ⟨#[105, 102, 32]⟩ rfl (by have := HLN.out; simp at this ⊢; show _ + 3 ≤ _; omega) hBwd ?_
  intro va0 wa0 hA0
  have hNa0 := hA0.keep hownd hNd (by decide)
  have hba := hA0.below hownd hBwd
  have hcell : ∀ o, wa0.cell? ⟨bb, o, none⟩ = wd.cell? ⟨bb, o, none⟩ := fun o => hba.cell (p := ⟨bb, o, none⟩) hbb
  refine hK.out _ _ ⟨hNa0.c6.2.2.2.2.2, (hcell _).trans d0, (hcell _).trans d1, (hcell _).trans d2, (hcell _).trans d3, (hcell _).trans d4, (hcell _).trans d5⟩ (fun hHeld => ?_)
  clear hK K hcell hHeld d0 d1 d2 d3 d4 d5
  have hBa0 := hBd.trans hba
  have hBwa0 := Nat.le_trans hBwd hba.size
  have hz := HC0.out 1 va0 _ wa0 (by omega) hBa0 hA0.own hBwa0 (by have := HLN.out; simp at this ⊢; omega)
  rw [show ((1 : Nat) : Int) = 1 from rfl] at hz
  have HZ := Lib.hid hz
  have hR0 := hpre.trans hA0
  clear hz hpre hownd hNd hBd hBwd hba
  refine doneL (by kernel_rfl) ?_
  simp only [List.drop_succ_cons, List.drop_zero]
  go_wp2_with fail
  (with_reducible refine HZ.out.mono ?_)
  rintro e wb0 ⟨vb0, rfl, hA⟩
  have hRb0 := hR0.trans hA
  have hNb0 := hA.keep hA0.own hNa0 (by decide)
  have hbb0 := hA.below hA0.own hBwa0
  have hBb0 := hBa0.trans hbb0
  have hBwb0 := Nat.le_trans hBwa0 hbb0.size
  have hownb0 := hA.own
  have hcell : ∀ o, wb0.cell? ⟨bb, o, none⟩ = w.cell? ⟨bb, o, none⟩ := fun o => hBb0.cell (p := ⟨bb, o, none⟩) hbb
  rw [← hcell] at p10 p11 p12 p13 p14 p15
  clear hcell hA hA0 hNa0 hbb0 hBa0 hBwa0 HZ hR0
  obtain ⟨n0, n1, n2, n3, n4, n5⟩ := hNb0.c6
  go_wp2_with fail
  refine wp_region_held_tail 6 (fun W => W.cell? ⟨w.heap.size, 5, none⟩ = some (.slice (some ⟨bb, oo, none⟩) x.l.length cx) ∧ W.cell? ⟨bb, oo + 6, none⟩ = some (.int .i64 y1.op) ∧ W.cell? ⟨bb, oo + 7, none⟩ = some (.int .i64 y1.v.kind) ∧ W.cell? ⟨bb, oo + 8, none⟩ = some (.int .i64 y1.v.n) ∧ W.cell? ⟨bb, oo + 9, none⟩ = some (.string y1.v.s) ∧ W.cell? ⟨bb, oo + 10, none⟩ = some (.string y1.s) ∧ W.cell? ⟨bb, oo + 11, none⟩ = some (.slice A1 y1.l.length c1)) (by kernel_rfl) (by kernel_rfl) ⟨n5, p10, p11, p12, p13, p14, p15⟩ (fun hHeld => ?_)
  simp only [List.take_succ_cons, List.take_zero]
  refine takeL (v := ?v59_0) 0 rfl (by kernel_rfl) (by kernel_rfl) (by kernel_rfl) (fun _ _ _ h => h) rfl ?hy59_0 hHeld ?rest59_0
  case hy59_0 => (intro W hW; obtain ⟨k5, k6, k7, k8, k9, k10, k11⟩ := hW; go_simp <;> first | rfl | (rw [if_pos hk1]; rfl))
  simp only [Act.put, List.setIfInBounds_toArray, List.set_cons_zero, List.set_cons_succ]
  refine takeL (v := ?v59_2) 2 rfl (by kernel_rfl) (by kernel_rfl) (by kernel_rfl) (fun _ _ _ h => h) rfl ?hy59_2 hHeld ?rest59_2
  case hy59_2 => (intro W hW; obtain ⟨k5, k6, k7, k8, k9, k10, k11⟩ := hW; go_simp <;> first | rfl | (rw [if_pos hk1]; rfl))
  simp only [Act.put, List.setIfInBounds_toArray, List.set_cons_zero, List.set_cons_succ]
  refine takeL (v := ?v59_3) 3 rfl (by kernel_rfl) (by kernel_rfl) (by kernel_rfl) (fun _ _ _ h => h) rfl ?hy59_3 hHeld ?rest59_3
  case hy59_3 => (intro W hW; obtain ⟨k5, k6, k7, k8, k9, k10, k11⟩ := hW; go_simp <;> first | rfl | (rw [if_pos hk1]; rfl))
  simp only [Act.put, List.setIfInBounds_toArray, List.set_cons_zero, List.set_cons_succ]
  refine takeL (v := ?v59_4) 4 rfl (by kernel_rfl) (by kernel_rfl) (by kernel_rfl) (fun _ _ _ h => h) rfl ?hy59_4 hHeld ?rest59_4
  case hy59_4 => (intro W hW; obtain ⟨k5, k6, k7, k8, k9, k10, k11⟩ := hW; go_simp <;> first | rfl | (rw [if_pos hk1]; rfl))
  simp only [Act.put, List.setIfInBounds_toArray, List.set_cons_zero, List.set_cons_succ]
  refine takeL (v := ?v59_5) 5 rfl (by kernel_rfl) (by kernel_rfl) (by kernel_rfl) (fun _ _ _ h => h) rfl ?hy59_5 hHeld ?rest59_5
  case hy59_5 => (intro W hW; obtain ⟨k5, k6, k7, k8, k9, k10, k11⟩ := hW; go_simp <;> first | rfl | (rw [if_pos hk1]; rfl))
  simp only [Act.put, List.setIfInBounds_toArray, List.set_cons_zero, List.set_cons_succ]
  refine onlyL 1 rfl rfl (by kernel_rfl) (fun K hK => ?_)
  have hownd : OwnC wb0.drew base vb0 _ := hownb0
  have hNd : Blk wb0.drew w.heap.size 28 #[.int .i64 12, .int .i64 x.v.kind, .int .i64 x.v.n, .string x.v.s, .string x.s, .slice (some ⟨bb, oo, none⟩) x.l.length cx] := hNb0
  have hBd : Below base w wb0.drew := hBb0.drew
  have hBwd : base ≤ wb0.drew.heap.size := hBwb0
  have hpre : Adds base w v _ wb0.drew vb0 := ⟨hownd, grown_drewN' hRb0.grown 1, hRb0.hat⟩
  obtain ⟨_, d0, d1, d2, d3, d4, d5⟩ := hHeld
  clear hRb0 hownb0 hNb0 hBb0 hBwb0 n0 n1 n2 n3 n4 n5 p10 p11 p12 p13 p14 p15
  generalize wb0.drew = wd at *
  refine wp_appendStr (v := vb0) (.tmp 59) (.const (.string ⟨#[32, 116, 104, 101, 110, 32]⟩)) rfl rfl hownd ⟨#[32, 116, 104, 101, 110, 32]⟩ rfl (by have := HLN.out; simp at this ⊢; show _ + 6 ≤ _; omega) hBwd ?_
  intro va1 wa1 hA1
  have hNa1 := hA1.keep hownd hNd (by decide)
  have hba := hA1.below hownd hBwd
  have hcell : ∀ o, wa1.cell? ⟨bb, o, none⟩ = wd.cell? ⟨bb, o, none⟩ := fun o => hba.cell (p := ⟨bb, o, none⟩) hbb
  refine hK.out _ _ ⟨hNa1.c6.2.2.2.2.2, (hcell _).trans d0, (hcell _).trans d1, (hcell _).trans d2, (hcell _).trans d3, (hcell _).trans d4, (hcell _).trans d5⟩ (fun hHeld => ?_)
  clear hK K hcell hHeld d0 d1 d2 d3 d4 d5
  have hBa1 := hBd.trans hba
  have hBwa1 := Nat.le_trans hBwd hba.size
  have hz := HC1.out 1 va1 _ wa1 (by omega) hBa1 hA1.own hBwa1 (by have := HLN.out; simp at this ⊢; omega)
  rw [show ((1 : Nat) : Int) = 1 from rfl] at hz
  have HZ := Lib.hid hz
  have hR1 := hpre.trans hA1
  clear hz hpre hownd hNd hBd hBwd hba
  refine doneL (by kernel_rfl) ?_
  simp only [List.drop_succ_cons, List.drop_zero]
  go_wp2_with fail
  (with_reducible refine HZ.out.mono ?_)
  rintro e wb1 ⟨vb1, rfl, hA⟩
  have hRb1 := hR1.trans hA
  have hNb1 := hA.keep hA1.own hNa1 (by decide)
  have hbb1 := hA.below hA1.own hBwa1
  have hBb1 := hBa1.trans hbb1
  have hBwb1 := Nat.le_trans hBwa1 hbb1.size
  have hownb1 := hA.own
  have hcell : ∀ o, wb1.cell? ⟨bb, o, none⟩ = w.cell? ⟨bb, o, none⟩ := fun o => hBb1.cell (p := ⟨bb, o, none⟩) hbb
  rw [← hcell] at p20 p21 p22 p23 p24 p25
  clear hcell hA hA1 hNa1 hbb1 hBa1 hBwa1 HZ hR1
  obtain ⟨n0, n1, n2, n3, n4, n5⟩ := hNb1.c6
  go_wp2_with fail
  refine wp_region_held_tail 6 (fun W => W.cell? ⟨w.heap.size, 5, none⟩ = some (.slice (some ⟨bb, oo, none⟩) x.l.length cx) ∧ W.cell? ⟨bb, oo + 12, none⟩ = some (.int .i64 y2.op) ∧ W.cell? ⟨bb, oo + 13, none⟩ = some (.int .i64 y2.v.kind) ∧ W.cell? ⟨bb, oo + 14, none⟩ = some (.int .i64 y2.v.n) ∧ W.cell? ⟨bb, oo + 15, none⟩ = some (.string y2.v.s) ∧ W.cell? ⟨bb, oo + 16, none⟩ = some (.string y2.s) ∧ W.cell? ⟨bb, oo + 17, none⟩ = some (.slice A2 y2.l.length c2)) (by kernel_rfl) (by kernel_rfl) ⟨n5, p20, p21, p22, p23, p24, p25⟩ (fun hHeld => ?_)
  simp only [List.take_succ_cons, List.take_zero]
  refine takeL (v := ?v66_0) 0 rfl (by kernel_rfl) (by kernel_rfl) (by kernel_rfl) (fun _ _ _ h => h) rfl ?hy66_0 hHeld ?rest66_0
  case hy66_0 => (intro W hW; obtain ⟨k5, k6, k7, k8, k9, k10, k11⟩ := hW; go_simp <;> first | rfl | (rw [if_pos hk2]; rfl))
  simp only [Act.put, List.setIfInBounds_toArray, List.set_cons_zero, List.set_cons_succ]
  refine takeL (v := ?v66_2) 2 rfl (by kernel_rfl) (by kernel_rfl) (by kernel_rfl) (fun _ _ _ h => h) rfl ?hy66_2 hHeld ?rest66_2
  case hy66_2 => (intro W hW; obtain ⟨k5, k6, k7, k8, k9, k10, k11⟩ := hW; go_simp <;> first | rfl | (rw [if_pos hk2]; rfl))
  simp only [Act.put, List.setIfInBounds_toArray, List.set_cons_zero, List.set_cons_succ]
  refine takeL (v := ?v66_3) 3 rfl (by kernel_rfl) (by kernel_rfl) (by kernel_rfl) (fun _ _ _ h => h) rfl ?hy66_3 hHeld ?rest66_3
  case hy66_3 => (intro W hW; obtain ⟨k5, k6, k7, k8, k9, k10, k11⟩ := hW; go_simp <;> first | rfl | (rw [if_pos hk2]; rfl))
  simp only [Act.put, List.setIfInBounds_toArray, List.set_cons_zero, List.set_cons_succ]
  refine takeL (v := ?v66_4) 4 rfl (by kernel_rfl) (by kernel_rfl) (by kernel_rfl) (fun _ _ _ h => h) rfl ?hy66_4 hHeld ?rest66_4
  case hy66_4 => (intro W hW; obtain ⟨k5, k6, k7, k8, k9, k10, k11⟩ := hW; go_simp <;> first | rfl | (rw [if_pos hk2]; rfl))
  simp only [Act.put, List.setIfInBounds_toArray, List.set_cons_zero, List.set_cons_succ]
  refine takeL (v := ?v66_5) 5 rfl (by kernel_rfl) (by kernel_rfl) (by kernel_rfl) (fun _ _ _ h => h) rfl ?hy66_5 hHeld ?rest66_5
  case hy66_5 => (intro W hW; obtain ⟨k5, k6, k7, k8, k9, k10, k11⟩ := hW; go_simp <;> first | rfl | (rw [if_pos hk2]; rfl))
  simp only [Act.put, List.setIfInBounds_toArray, List.set_cons_zero, List.set_cons_succ]
  refine onlyL 1 rfl rfl (by kernel_rfl) (fun K hK => ?_)
  have hownd : OwnC wb1.drew base vb1 _ := hownb1
  have hNd : Blk wb1.drew w.heap.size 28 #[.int .i64 12, .int .i64 x.v.kind, .int .i64 x.v.n, .string x.v.s, .string x.s, .slice (some ⟨bb, oo, none⟩) x.l.length cx] := hNb1
  have hBd : Below base w wb1.drew := hBb1.drew
  have hBwd : base ≤ wb1.drew.heap.size := hBwb1
  have hpre : Adds base w v _ wb1.drew vb1 := ⟨hownd, grown_drewN' hRb1.grown 1, hRb1.hat⟩
  obtain ⟨_, d0, d1, d2, d3, d4, d5⟩ := hHeld
  clear hRb1 hownb1 hNb1 hBb1 hBwb1 n0 n1 n2 n3 n4 n5 p20 p21 p22 p23 p24 p25
  generalize wb1.drew = wd at *
  refine wp_appendStr (v := vb1) (.tmp 66) (.const (.string ⟨#[32, 101, 108, 115, 101, 32]⟩)) rfl rfl hownd ⟨#[32, 101, 108, 115, 101, 32]⟩ rfl (by have := HLN.out; simp at this ⊢; show _ + 6 ≤ _; omega) hBwd ?_
  intro va2 wa2 hA2
  have hNa2 := hA2.keep hownd hNd (by decide)
  have hba := hA2.below hownd hBwd
  have hcell : ∀ o, wa2.cell? ⟨bb, o, none⟩ = wd.cell? ⟨bb, o, none⟩ := fun o => hba.cell (p := ⟨bb, o, none⟩) hbb
  refine hK.out _ _ ⟨hNa2.c6.2.2.2.2.2, (hcell _).trans d0, (hcell _).trans d1, (hcell _).trans d2, (hcell _).trans d3, (hcell _).trans d4, (hcell _).trans d5⟩ (fun hHeld => ?_)
  clear hK K hcell hHeld d0 d1 d2 d3 d4 d5
  have hBa2 := hBd.trans hba
  have hBwa2 := Nat.le_trans hBwd hba.size
  have hz := HC2.out 1 va2 _ wa2 (by omega) hBa2 hA2.own hBwa2 (by have := HLN.out; simp at this ⊢; omega)
  rw [show ((1 : Nat) : Int) = 1 from rfl] at hz
  have HZ := Lib.hid hz
  have hR2 := hpre.trans hA2
  clear hz hpre hownd hNd hBd hBwd hba
  refine doneL (by kernel_rfl) ?_
  simp only [List.drop_succ_cons, List.drop_zero]
  go_wp2_with fail
  (with_reducible refine HZ.out.mono ?_)
  rintro e wb2 ⟨vb2, rfl, hA⟩
  have hRb2 := hR2.trans hA
  go_wp2_with fail
  go_ret
  exact ⟨vb2, rfl, by simpa using hRb2⟩
end Go.Proofs.YtijmnenojbfdnaaGreatDoor

namespace Go.Proofs.YtijmnenojbfdnaaGreatDoor
open Go.RowKit
set_option maxHeartbeats 2000000 in
set_option maxRecDepth 100000 in
theorem writeR_const (n : Nat) (u : Value) (x : Ex) (asks : Nat) (w : World) (base : Nat) (v : Value) (l : List UInt8) (h2 : x.op = 1) (hlt : ¬ levB x.op.toNat < asks) (hv : validV x.v = true) (hown : OwnC w base v l) (hbase : base ≤ w.heap.size) (hx : IsEx n (Lt base) w u x)
    (hlen : l.length + (txB (n + 1) x asks).length ≤ 1000000) :
    Calls Tryz.prog 58 #[v, u, .int .i64 (asks : Int)] w (RetAdds base w v (l ++ txB (n + 1) x asks)) := by
  have ht : txB (n + 1) x asks = (textV x.v).data.toList := by
    unfold txB
    dsimp only
    rw [if_neg hlt, if_pos h2]
    unfold textE
    rw [hv]; rfl
  rw [ht] at hlen ⊢
  obtain ⟨lv, rfl, _, Ax, cx, rfl⟩ := hx.cells
  rw [h2] at hlt ⊢
  have hlv : ¬ (levB 1 : Int) < (asks : Int) := by have : levB (1 : Int).toNat = levB 1 := rfl; omega
  have HL2 := Lib.hid (fun W => level_ref 1 W (by omega) (by omega))
  have hb1 := bone w (.cells #[.int .i64 1, .int .i64 x.v.kind, .int .i64 x.v.n, .string x.v.s, .string x.s, .slice Ax x.l.length cx] 28)
  have hN1 := Blk.new w 28 #[.int .i64 1, .int .i64 x.v.kind, .int .i64 x.v.n, .string x.v.s, .string x.s, .slice Ax x.l.length cx]
  have hBw1 := Nat.le_trans hbase hb1.size
  have hR1 := (Adds.refl hown).post hb1
  obtain ⟨_, _, _, hfv, _⟩ := hx
  have HT := Lib.hid (fun W => textV_ref x.v W hfv hv)
  unfold valV at HT
  have hss : (textV x.v).data.toList.length = (textV x.v).size := Array.length_toList
  have HLN := Lib.hid (hss ▸ hlen)
  clear ht h2 hlt hlen hown hss
  go_enter Tryz.func58, Tryz.ntmps58
  obtain ⟨n0, n1, n2, n3, n4, n5⟩ := hN1.c6
  go_wp2_with fail
  refine (HL2.out _).mono ?_
  rintro e w2 ⟨rfl, rfl⟩
  go_wp2_with fail
  refine (HL2.out _).mono ?_
  rintro e w2 ⟨rfl, rfl⟩
  clear HL2
  generalize hw1 : (w.alloc (.cells #[.int .i64 1, .int .i64 x.v.kind, .int .i64 x.v.n, .string x.v.s, .string x.s, .slice Ax x.l.length cx] 28)) = w1 at *
  clear hw1
  go_wp2_with fail
  refine (HT.out w1).mono ?_
  rintro e w3 ⟨rfl, hb3⟩
  have hR3 := hR1.post hb3
  have hBw3 := Nat.le_trans hBw1 hb3.size
  generalize textV x.v = tx at *
  go_wp2_with (at_builtin; refine wpList_appendStr (v := v) rfl (.tmp 30) (.tmp 33) rfl rfl hR3.own tx rfl (by have := HLN.out; omega) hBw3 ?_; intro v4 w4 hA4)
  go_ret
  exact ⟨v4, rfl, hR3.trans hA4⟩
set_option maxHeartbeats 2000000 in
set_option maxRecDepth 100000 in
theorem writeR_var (n : Nat) (u : Value) (x : Ex) (asks : Nat) (w : World) (base : Nat) (v : Value) (l : List UInt8) (h2 : x.op = 2) (hlt : ¬ levB x.op.toNat < asks) (hown : OwnC w base v l) (hbase : base ≤ w.heap.size) (hx : IsEx n (Lt base) w u x)
    (hlen : l.length + (txB (n + 1) x asks).length ≤ 1000000) :
    Calls Tryz.prog 58 #[v, u, .int .i64 (asks : Int)] w (RetAdds base w v (l ++ txB (n + 1) x asks)) := by
  have ht : txB (n + 1) x asks = x.s.data.toList := by
    unfold txB
    dsimp only
    rw [if_neg hlt, if_neg (by omega), if_pos h2]
  rw [ht] at hlen ⊢
  obtain ⟨lv, rfl, _, Ax, cx, rfl⟩ := hx.cells
  rw [h2] at hlt ⊢
  have hlv : ¬ (levB 2 : Int) < (asks : Int) := by have : levB (2 : Int).toNat = levB 2 := rfl; omega
  have HL2 := Lib.hid (fun W => level_ref 2 W (by omega) (by omega))
  have hb1 := bone w (.cells #[.int .i64 2, .int .i64 x.v.kind, .int .i64 x.v.n, .string x.v.s, .string x.s, .slice Ax x.l.length cx] 28)
  have hN1 := Blk.new w 28 #[.int .i64 2, .int .i64 x.v.kind, .int .i64 x.v.n, .string x.v.s, .string x.s, .slice Ax x.l.length cx]
  have hBw1 := Nat.le_trans hbase hb1.size
  have hR1 := (Adds.refl hown).post hb1
  have hss : x.s.data.toList.length = x.s.size := Array.length_toList
  have HLN := Lib.hid (hss ▸ hlen)
  clear ht h2 hlt hlen hown hss
  go_enter Tryz.func58, Tryz.ntmps58
  obtain ⟨n0, n1, n2, n3, n4, n5⟩ := hN1.c6
  go_wp2_with fail
  refine (HL2.out _).mono ?_
  rintro e w2 ⟨rfl, rfl⟩
  go_wp2_with fail
  refine (HL2.out _).mono ?_
  rintro e w2 ⟨rfl, rfl⟩
  clear HL2
  generalize hw1 : (w.alloc (.cells #[.int .i64 2, .int .i64 x.v.kind, .int .i64 x.v.n, .string x.v.s, .string x.s, .slice Ax x.l.length cx] 28)) = w1 at *
  clear hw1
  go_wp2_with (at_builtin; refine wpList_appendStr (v := v) rfl (.tmp 37) (.tmp 39) rfl rfl hR1.own x.s rfl (by have := HLN.out; omega) hBw1 ?_; intro v4 w4 hA4)
  go_ret
  exact ⟨v4, rfl, hR1.trans hA4⟩
set_option maxHeartbeats 4000000 in
set_option maxRecDepth 100000 in
theorem writeR_bin (n : Nat) (hIH : ∀ k, k < n → WriteR k) (u : Value) (x : Ex) (asks : Nat) (w : World) (base : Nat) (v : Value) (l : List UInt8) (h2 : 4 ≤ x.op ∧ x.op ≤ 11) (hlt : ¬ levB x.op.toNat < asks) (hok : okX x = true) (h1 : x.l.length = 2) (hown : OwnC w base v l) (hbase : base ≤ w.heap.size) (hx : IsEx n (Lt base) w u x)
    (hlen : l.length + (txB (n + 1) x asks).length ≤ 1000000) :
    Calls Tryz.prog 58 #[v, u, .int .i64 (asks : Int)] w (RetAdds base w v (l ++ txB (n + 1) x asks)) := by
  obtain ⟨sg, hsg, hso, hss⟩ := sign_at h2
  have hL2 := levB_le x.op.toNat
  have HSG : Hid (∀ W, Calls Tryz.prog 102 #[.int .i64 x.op] W fun e w' => e = .returned (.string sg) ∧ W = w') := by
    show ∀ W, _
    intro W
    have := sign_ref (x.op.toNat - 4) sg W hsg
    rw [show ((x.op.toNat - 4 + 4 : Nat) : Int) = x.op by omega] at this
    exact this
  have HLV : Hid (∀ W, Calls Tryz.prog 100 #[.int .i64 x.op] W fun e w' => e = .returned (.int .i64 (levB x.op.toNat : Int)) ∧ W = w') := by
    show ∀ W, _
    intro W
    have := level_ref x.op.toNat W (by omega) (by omega)
    rw [show ((x.op.toNat : Nat) : Int) = x.op by omega] at this
    exact this
  generalize hL : levB x.op.toNat = L at *
  obtain ⟨left, hleft⟩ : ∃ left : Nat, left = if L = 5 then 6 else L := ⟨_, rfl⟩
  have hl9 : left ≤ 9 := by rw [hleft]; split <;> omega
  have ht : txB (n + 1) x asks = txB n (kAt x.l 0) left ++ [32] ++ sg.data.toList ++ [32] ++ txB n (kAt x.l 1) (L + 1) := by
    rw [← hso, hleft]
    unfold txB
    dsimp only
    rw [hL, if_neg hlt, if_neg (by omega), if_neg (by omega), if_neg (by omega), if_neg (by omega), if_neg (by omega)]
    cases n <;> rfl
  rw [ht] at hlen ⊢
  obtain ⟨lv, rfl, _, Ax, cx, rfl⟩ := hx.cells
  have hlv : ¬ (L : Int) < (asks : Int) := by omega
  have hb1 := bone w (.cells #[.int .i64 x.op, .int .i64 x.v.kind, .int .i64 x.v.n, .string x.v.s, .string x.s, .slice Ax x.l.length cx] 28)
  have hN1 := Blk.new w 28 #[.int .i64 x.op, .int .i64 x.v.kind, .int .i64 x.v.n, .string x.v.s, .string x.s, .slice Ax x.l.length cx]
  have hBb1 : Below base w _ := hb1.mono hbase
  have hBw1 := Nat.le_trans hbase hb1.size
  have hown1 := hown.now hb1
  have hR1 := (Adds.refl hown).post hb1
  obtain ⟨bb, oo, y, Ay, cy, rfl, hbb, hky, y0, y1, y2, y3, y4, y5, hcy⟩ := part_rat hIH (okX_l hok) (ex_slice hx) (k := 0) (by omega)
  obtain ⟨bb', oo', z, Az, cz, e, _, hkz, z0, z1, z2, z3, z4, z5, hcz⟩ := part_rat hIH (okX_l hok) (ex_slice hx) (k := 1) (by omega)
  injection e with e
  injection e with e1 e2 _
  subst e1 e2
  rw [hky, hkz] at hlen ⊢
  have hcell : ∀ o, (w.alloc (.cells #[.int .i64 x.op, .int .i64 x.v.kind, .int .i64 x.v.n, .string x.v.s, .string x.s, .slice (some ⟨bb, oo, none⟩) x.l.length cx] 28)).cell? ⟨bb, o, none⟩ = w.cell? ⟨bb, o, none⟩ := fun o => hBb1.cell (p := ⟨bb, o, none⟩) hbb
  rw [← hcell, Nat.zero_mul, Nat.add_zero] at y0 y1 y2 y3 y4 y5
  have tot : (sg.data.toList.length) = sg.size := Array.length_toList
  have HTO := Lib.hid tot
  have hln : l.length + (txB n y left).length + sg.data.toList.length + (txB n z (L + 1)).length + 2 ≤ 1000000 := by simp only [List.length_append, List.length_cons, List.length_nil] at hlen; omega
  have HY := Lib.hid (hcy left v l _ hl9 hBb1 hown1 hBw1 (by omega))
  have HZ := Lib.hid hcz
  have HL1 := Lib.hid hln
  have HSS := Lib.hid hss
  have i0 : (0 : Int) < (x.l.length : Int) := by omega
  have i1 : (1 : Int) < (x.l.length : Int) := by omega
  have hleft5 : L = 5 → left = 6 := fun e => by rw [hleft, if_pos e]
  have hleftn : L ≠ 5 → left = L := fun e => by rw [hleft, if_neg e]
  have Hl5 := Lib.hid hleft5
  have Hln := Lib.hid hleftn
  clear hleft5 hleftn hleft hln hlen hcy hcz ht hlt hsg hso hss hL hx hky hkz h1 hcell tot hown
  go_enter Tryz.func58, Tryz.ntmps58
  obtain ⟨n0, n1, n2, n3, n4, n5⟩ := hN1.c6
  go_wp2_with fail
  refine (HLV.out _).mono ?_
  rintro e w2 ⟨rfl, rfl⟩
  go_wp2_with fail
  refine (HLV.out _).mono ?_
  rintro e w2 ⟨rfl, rfl⟩
  clear HLV
  generalize hw1 : (w.alloc (.cells #[.int .i64 x.op, .int .i64 x.v.kind, .int .i64 x.v.n, .string x.v.s, .string x.s, .slice (some ⟨bb, oo, none⟩) x.l.length cx] 28)) = w1 at *
  clear hw1
  by_cases h5 : L = 5
  · have l6 := Hl5.out h5
    subst h5
    have hlv5 : ¬ (5 : Int) < (asks : Int) := by have : ((5 : Nat) : Int) = 5 := rfl; omega
    clear hlv
    have l6' : txB n y left = txB n y 6 := by rw [l6]
    rw [l6', show (5 + 1 : Nat) = 6 from rfl] at HL1
    rw [l6, show ((6 : Nat) : Int) = 6 from rfl] at HY
    have HL6 := Lib.hid l6'
    clear l6' l6
    go_wp2_with fail
    (with_reducible refine HY.out.mono ?_)
    rintro e w3 ⟨v3, rfl, hA3⟩
    have hN3 := hA3.keep hown1 hN1 (by decide)
    have hB3 := hBb1.trans (hA3.below hown1 hBw1)
    have hBw3 := Nat.le_trans hBw1 hA3.grown.size
    have hR3 := hR1.trans hA3
    clear n0 n1 n2 n3 n4 n5 HY
    obtain ⟨n0, n1, n2, n3, n4, n5⟩ := hN3.c6
    go_upto_region 28 with (at_builtin; refine wpList_pushC (v := v3) rfl (.tmp 114) (.tmp 115) rfl 32 32 rfl rfl hA3.own rfl (by have := HL1.out; rw [List.length_append]; omega) hBw3 ?_; intro v4 w4 hA4)
    have hN4 := hA4.keep hA3.own hN3 (by decide)
    have hb4 := hA4.below hA3.own hBw3
    have hB4 := hB3.trans hb4
    have hBw4 := Nat.le_trans hBw3 hb4.size
    have hR4 := hR3.trans hA4
    clear n0 n1 n2 n3 n4 n5 hN3 hB3 hR3
    obtain ⟨n0, n1, n2, n3, n4, n5⟩ := hN4.c6
    go_wp2_with fail
    refine (HSG.out _).mono ?_
    rintro e w5 ⟨rfl, rfl⟩
    go_upto_region 29 with (first | (at_builtin; refine wpList_appendStr (v := v4) rfl (.tmp 117) (.tmp 120) rfl rfl hA4.own sg rfl (by have := HL1.out; have := HSS.out; simp only [List.length_append, List.length_cons, List.length_nil]; omega) hBw4 ?_; intro v5 w5 hA5; have hbw5 := Nat.le_trans hBw4 hA5.grown.size) | (at_builtin; refine wpList_pushC (v := v5) rfl (.tmp 121) (.tmp 122) rfl 32 32 rfl rfl hA5.own rfl (by have := HL1.out; have := HTO.out; simp only [List.length_append, List.length_cons, List.length_nil]; omega) hbw5 ?_; intro v6 w6 hA6))
    have hN5 := hA5.keep hA4.own hN4 (by decide)
    have hN6 := hA6.keep hA5.own hN5 (by decide)
    have hB6 := (hB4.trans (hA5.below hA4.own hBw4)).trans (hA6.below hA5.own hbw5)
    have hBw6 := Nat.le_trans hbw5 hA6.grown.size
    have hR6 := (hR4.trans hA5).trans hA6
    have hcellz : ∀ o, w6.cell? ⟨bb, o, none⟩ = w.cell? ⟨bb, o, none⟩ := fun o => hB6.cell (p := ⟨bb, o, none⟩) hbb
    rw [← hcellz] at z0 z1 z2 z3 z4 z5
    rw [Nat.one_mul] at z0 z1 z2 z3 z4 z5
    clear hcellz
    have hz := HZ.out 6 v6 _ w6 (by omega) hB6 hA6.own hBw6 (by have := HL1.out; have := HTO.out; simp only [List.length_append, List.length_cons, List.length_nil]; omega)
    rw [show ((6 : Nat) : Int) = 6 from rfl] at hz
    have HZ2 := Lib.hid hz
    clear hz n0 n1 n2 n3 n4 n5
    obtain ⟨n0, n1, n2, n3, n4, n5⟩ := hN6.c6
    go_wp2_with fail
    (with_reducible refine HZ2.out.mono ?_)
    rintro e w7 ⟨v7, rfl, hA7⟩
    go_wp2_with fail
    go_ret
    have hR7 := hR6.trans hA7
    exact ⟨v7, rfl, by rw [HL6.out]; simpa using hR7⟩
  · have l6 := Hln.out h5
    have d5 : ((L : Int) == 5) = false := by simp; omega
    have l6' : txB n y left = txB n y L := by rw [l6]
    rw [l6'] at HL1
    rw [l6] at HY
    have HL6 := Lib.hid l6'
    clear l6' l6
    go_wp2_with fail
    (with_reducible refine HY.out.mono ?_)
    rintro e w3 ⟨v3, rfl, hA3⟩
    have hN3 := hA3.keep hown1 hN1 (by decide)
    have hB3 := hBb1.trans (hA3.below hown1 hBw1)
    have hBw3 := Nat.le_trans hBw1 hA3.grown.size
    have hR3 := hR1.trans hA3
    clear n0 n1 n2 n3 n4 n5 HY
    obtain ⟨n0, n1, n2, n3, n4, n5⟩ := hN3.c6
    go_upto_region 28 with (at_builtin; refine wpList_pushC (v := v3) rfl (.tmp 114) (.tmp 115) rfl 32 32 rfl rfl hA3.own rfl (by have := HL1.out; rw [List.length_append]; omega) hBw3 ?_; intro v4 w4 hA4)
    have hN4 := hA4.keep hA3.own hN3 (by decide)
    have hb4 := hA4.below hA3.own hBw3
    have hB4 := hB3.trans hb4
    have hBw4 := Nat.le_trans hBw3 hb4.size
    have hR4 := hR3.trans hA4
    clear n0 n1 n2 n3 n4 n5 hN3 hB3 hR3
    obtain ⟨n0, n1, n2, n3, n4, n5⟩ := hN4.c6
    go_wp2_with fail
    refine (HSG.out _).mono ?_
    rintro e w5 ⟨rfl, rfl⟩
    go_upto_region 29 with (first | (at_builtin; refine wpList_appendStr (v := v4) rfl (.tmp 117) (.tmp 120) rfl rfl hA4.own sg rfl (by have := HL1.out; have := HSS.out; simp only [List.length_append, List.length_cons, List.length_nil]; omega) hBw4 ?_; intro v5 w5 hA5; have hbw5 := Nat.le_trans hBw4 hA5.grown.size) | (at_builtin; refine wpList_pushC (v := v5) rfl (.tmp 121) (.tmp 122) rfl 32 32 rfl rfl hA5.own rfl (by have := HL1.out; have := HTO.out; simp only [List.length_append, List.length_cons, List.length_nil]; omega) hbw5 ?_; intro v6 w6 hA6))
    have hN5 := hA5.keep hA4.own hN4 (by decide)
    have hN6 := hA6.keep hA5.own hN5 (by decide)
    have hB6 := (hB4.trans (hA5.below hA4.own hBw4)).trans (hA6.below hA5.own hbw5)
    have hBw6 := Nat.le_trans hbw5 hA6.grown.size
    have hR6 := (hR4.trans hA5).trans hA6
    have hcellz : ∀ o, w6.cell? ⟨bb, o, none⟩ = w.cell? ⟨bb, o, none⟩ := fun o => hB6.cell (p := ⟨bb, o, none⟩) hbb
    rw [← hcellz] at z0 z1 z2 z3 z4 z5
    rw [Nat.one_mul] at z0 z1 z2 z3 z4 z5
    clear hcellz
    have hz := HZ.out (L + 1) v6 _ w6 (by omega) hB6 hA6.own hBw6 (by have := HL1.out; have := HTO.out; simp only [List.length_append, List.length_cons, List.length_nil]; omega)
    rw [show ((L + 1 : Nat) : Int) = (L : Int) + 1 from rfl] at hz
    have HZ2 := Lib.hid hz
    clear hz n0 n1 n2 n3 n4 n5
    obtain ⟨n0, n1, n2, n3, n4, n5⟩ := hN6.c6
    go_wp2_with fail
    (with_reducible refine HZ2.out.mono ?_)
    rintro e w7 ⟨v7, rfl, hA7⟩
    go_wp2_with fail
    go_ret
    have hR7 := hR6.trans hA7
    exact ⟨v7, rfl, by rw [HL6.out]; simpa using hR7⟩
end Go.Proofs.YtijmnenojbfdnaaGreatDoor

namespace Go.Proofs.YtijmnenojbfdnaaGreatDoor
open Go.RowKit
theorem kAt_drop (l : List Ex) (k : Nat) : kAt (l.drop 1) k = kAt l (k + 1) := by
  unfold kAt
  rw [List.getD_eq_getElem?_getD, List.getD_eq_getElem?_getD, List.getElem?_drop, Nat.add_comm]
set_option maxHeartbeats 4000000 in
set_option maxRecDepth 100000 in
theorem writeR_in (n : Nat) (hIH : ∀ k, k < n → WriteR k) (u : Value) (x : Ex) (asks : Nat) (w : World) (base : Nat) (v : Value) (l : List UInt8) (h2 : x.op = 13) (hlt : ¬ levB x.op.toNat < asks) (hok : okX x = true) (h1 : 2 ≤ x.l.length) (hown : OwnC w base v l) (hbase : base ≤ w.heap.size) (hx : IsEx n (Lt base) w u x)
    (hlen : l.length + (txB (n + 1) x asks).length ≤ 1000000) :
    Calls Tryz.prog 58 #[v, u, .int .i64 (asks : Int)] w (RetAdds base w v (l ++ txB (n + 1) x asks)) := by
  rw [txB_in h2 hlt] at hlen ⊢
  obtain ⟨lv, rfl, _, Ax, cx, rfl⟩ := hx.cells
  rw [h2] at hlt ⊢
  have hlv : ¬ (levB 13 : Int) < (asks : Int) := by have : levB (13 : Int).toNat = levB 13 := rfl; omega
  have dlv : decide (levB 13 < asks) = false := decide_eq_false (by have : levB (13 : Int).toNat = levB 13 := rfl; omega)
  have HL2 := Lib.hid (fun W => level_ref 13 W (by omega) (by omega))
  have hb1 := bone w (.cells #[.int .i64 13, .int .i64 x.v.kind, .int .i64 x.v.n, .string x.v.s, .string x.s, .slice Ax x.l.length cx] 28)
  have hN1 := Blk.new w 28 #[.int .i64 13, .int .i64 x.v.kind, .int .i64 x.v.n, .string x.v.s, .string x.s, .slice Ax x.l.length cx]
  have hBb1 : Below base w _ := hb1.mono hbase
  have hBw1 := Nat.le_trans hbase hb1.size
  have hown1 := hown.now hb1
  have hR1 := (Adds.refl hown).post hb1
  have hsx := ex_slice hx
  obtain ⟨Ax', cx', hAx, hc1, hc2, _⟩ := hsx.open_
  injection hAx with e1 _ e2
  subst e1 e2
  have HP := Lib.hid (fun k (hk : k < x.l.length) => part_rat hIH (okX_l hok) hsx hk)
  obtain ⟨bb, oo, y, Ay, cy, rfl, hbb, hky, y0, y1, y2, y3, y4, y5, hcy⟩ := part_rat hIH (okX_l hok) hsx (k := 0) (by omega)
  have hdl : (x.l.drop 1).length = x.l.length - 1 := List.length_drop
  have HKD := Lib.hid (fun k => kAt_drop x.l k)
  generalize hys : x.l.drop 1 = ys at *
  have HD := Lib.hid hdl
  rw [hky] at hlen ⊢
  have hcell : ∀ o, (w.alloc (.cells #[.int .i64 13, .int .i64 x.v.kind, .int .i64 x.v.n, .string x.v.s, .string x.s, .slice (some ⟨bb, oo, none⟩) x.l.length cx] 28)).cell? ⟨bb, o, none⟩ = w.cell? ⟨bb, o, none⟩ := fun o => hBb1.cell (p := ⟨bb, o, none⟩) hbb
  rw [← hcell, Nat.zero_mul, Nat.add_zero] at y0 y1 y2 y3 y4 y5
  have hln : l.length + (txB n y 6).length + (inP n ys ys.length).length + 6 ≤ 1000000 := by simp only [List.length_append, List.length_cons, List.length_nil] at hlen; omega
  have HLN := Lib.hid hln
  have hz := hcy 6 v l _ (by omega) hBb1 hown1 hBw1 (by omega)
  rw [show ((6 : Nat) : Int) = 6 from rfl] at hz
  have HY := Lib.hid hz
  have i0 : (0 : Int) < (x.l.length : Int) := by omega
  clear hlen hln hx hsx h2 hlt hcy hdl hky hcell hz hys hown
  go_enter Tryz.func58, Tryz.ntmps58
  obtain ⟨n0, n1, n2, n3, n4, n5⟩ := hN1.c6
  go_wp2_with fail
  refine (HL2.out _).mono ?_
  rintro e w2 ⟨rfl, rfl⟩
  go_wp2_with fail
  refine (HL2.out _).mono ?_
  rintro e w2 ⟨rfl, rfl⟩
  clear HL2
  generalize hw1 : (w.alloc (.cells #[.int .i64 13, .int .i64 x.v.kind, .int .i64 x.v.n, .string x.v.s, .string x.s, .slice (some ⟨bb, oo, none⟩) x.l.length cx] 28)) = w1 at *
  clear hw1
  go_wp2_with fail
  (with_reducible refine HY.out.mono ?_)
  rintro e w3 ⟨v3, rfl, hA3⟩
  have hN3 := hA3.keep hown1 hN1 (by decide)
  have hB3 := hBb1.trans (hA3.below hown1 hBw1)
  have hBw3 := Nat.le_trans hBw1 hA3.grown.size
  have hR3 := hR1.trans hA3
  clear n0 n1 n2 n3 n4 n5 y0 y1 y2 y3 y4 y5 HY
  obtain ⟨n0, n1, n2, n3, n4, n5⟩ := hN3.c6
  go_upto_region 17 with (at_builtin; refine wpList_appendStr (v := v3) rfl (.tmp 80) (.const (.string ⟨#[32, 105, 110, 32, 123]⟩)) rfl rfl hA3.own ⟨#[32, 105, 110, 32, 123]⟩ rfl (by have := HLN.out; rw [List.length_append]; show _ + 5 ≤ _; omega) hBw3 ?_; intro v4 w4 hA4)
  have hN4 := hA4.keep hA3.own hN3 (by decide)
  have hB4 := hB3.trans (hA4.below hA3.own hBw3)
  have hBw4 := Nat.le_trans hBw3 hA4.grown.size
  have hR4 := hR3.trans hA4
  have hown4 := hA4.own
  clear n0 n1 n2 n3 n4 n5 hN3 hB3 hR3 hA3 hA4 hN1 hR1 hBb1 hBw1 hown1 hb1
  generalize hpre : l ++ txB n y 6 ++ (⟨#[32, 105, 110, 32, 123]⟩ : ByteArray).data.toList = pre at *
  have hpl : pre.length = l.length + (txB n y 6).length + 5 := by rw [← hpre, List.length_append, List.length_append]; rfl
  have HPL := Lib.hid hpl
  have HPR := Lib.hid hpre
  clear hpl hpre
  go_wp2_with fail
  go_loopw [0, 8] (fun sv i wr => ∃ j : Nat, 1 ≤ j ∧ j ≤ x.l.length ∧ i = .int .i64 (j : Int) ∧ Adds base w4 v4 (pre ++ inP n ys (j - 1)) wr sv) (fun _ i _ => x.l.length - (intOf i).toNat)
  case atStart => exact ⟨1, by omega, by omega, rfl, by rw [show 1 - 1 = 0 from rfl, inP_zero, List.append_nil]; exact Adds.refl hown4⟩
  case round =>
    obtain ⟨j, hj1, hj, rfl, hAr⟩ := hrel
    have hNr := hAr.keep hown4 hN4 (by decide)
    have hbr := hAr.below hown4 hBw4
    have hBr := hB4.trans hbr
    have hBwr := Nat.le_trans hBw4 hbr.size
    obtain ⟨n0, n1, n2, n3, n4, n5⟩ := hNr.c6
    by_cases hlt : j < x.l.length
    · obtain ⟨bb', oo', z, Az, cz, e, _, hkz, z0, z1, z2, z3, z4, z5, hcz⟩ := HP.out j hlt
      injection e with e
      injection e with e1 e2 _
      subst e1 e2
      have hcell : ∀ o, wr.cell? ⟨bb, o, none⟩ = w.cell? ⟨bb, o, none⟩ := fun o => hBr.cell (p := ⟨bb, o, none⟩) hbb
      rw [← hcell] at z0 z1 z2 z3 z4 z5
      have i5 : (j : Int) < (x.l.length : Int) := by omega
      have i6 : (0 : Int) ≤ (j : Int) := by omega
      have hkys : j - 1 < ys.length := by rw [HD.out]; omega
      have hj1' : j - 1 + 1 = j := by omega
      have HKZ : Hid (kAt ys (j - 1) = z) := by show _ = _; rw [HKD.out, hj1']; exact hkz
      have hle := inP_le n ys (show j - 1 + 1 ≤ ys.length by omega) (Nat.le_refl _)
      have hst := inP_step (n := n) hkys
      rw [HKZ.out] at hst
      have HST := Lib.hid hst
      have hln : (pre ++ inP n ys (j - 1 + 1)).length ≤ 1000000 := by have := HLN.out; have := HPL.out; rw [List.length_append]; omega
      have HLK := Lib.hid hln
      clear hkz hle hln hcell hst
      by_cases hk0 : j = 1
      · subst hk0
        have HST1 : Hid (inP n ys (1 - 1 + 1) = txB n z 0) := by show _ = _; rw [HST.out, if_pos rfl]; rfl
        have hz := hcz 0 _ _ wr (by omega) hBr hAr.own hBwr (by have := HLK.out; rw [HST1.out] at this; rw [show 1 - 1 = 0 from rfl, inP_zero, List.append_nil]; rw [List.length_append] at this; exact this)
        rw [show ((0 : Nat) : Int) = 0 from rfl, show 1 - 1 = 0 from rfl, inP_zero, List.append_nil] at hz
        have HZ := Lib.hid hz
        clear hz hcz
        go_wp2_with fail
        (with_reducible refine HZ.out.mono ?_)
        rintro e w6 ⟨v6, rfl, hA6⟩
        clear n0 n1 n2 n3 n4 n5 z0 z1 z2 z3 z4 z5 HZ
        rw [show 1 - 1 = 0 from rfl, inP_zero, List.append_nil] at hAr
        go_wp2_with fail
        go_roundw
        case rel => exact ⟨2, by omega, by omega, by go_num, by have := HST1.out; rw [show (2 - 1 : Nat) = 1 - 1 + 1 from rfl, this]; exact hAr.trans hA6⟩
        case measure => simp [intOf]; omega
      · have i7 : (1 : Int) < (j : Int) := by omega
        have HST1 : Hid (inP n ys (j - 1 + 1) = inP n ys (j - 1) ++ sepC ++ txB n z 0) := by show _ = _; rw [HST.out, if_neg (by omega)]
        have HJ := Lib.hid hj1'
        clear hj1' hkys
        go_upto_region 22 with (at_builtin; refine wpList_appendStr rfl (.tmp 91) (.const (.string ⟨#[44, 32]⟩)) rfl rfl hAr.own ⟨#[44, 32]⟩ rfl (by have := HLK.out; rw [HST1.out] at this; simp only [List.length_append] at this ⊢; show _ + 2 ≤ _; omega) hBwr ?_; intro v5 w5 hA5)
        have hN5 := hA5.keep hAr.own hNr (by decide)
        have hb5 := hA5.below hAr.own hBwr
        have hB5 := hBr.trans hb5
        have hBw5 := Nat.le_trans hBwr hb5.size
        have hcell : ∀ o, w5.cell? ⟨bb, o, none⟩ = wr.cell? ⟨bb, o, none⟩ := fun o => hb5.cell (p := ⟨bb, o, none⟩) hbb
        rw [← hcell] at z0 z1 z2 z3 z4 z5
        have hz := hcz 0 v5 _ w5 (by omega) hB5 hA5.own hBw5 (by have := HLK.out; rw [HST1.out] at this; simp only [List.length_append] at this ⊢; exact Nat.le_trans (by show _ + 2 + _ ≤ _; have : sepC.length = 2 := rfl; omega) this)
        rw [show ((0 : Nat) : Int) = 0 from rfl] at hz
        have HZ := Lib.hid hz
        clear hz hcz hcell n0 n1 n2 n3 n4 n5
        obtain ⟨n0, n1, n2, n3, n4, n5⟩ := hN5.c6
        go_wp2_with fail
        (with_reducible refine HZ.out.mono ?_)
        rintro e w6 ⟨v6, rfl, hA6⟩
        clear n0 n1 n2 n3 n4 n5 z0 z1 z2 z3 z4 z5 HZ
        go_wp2_with fail
        go_roundw
        case rel => exact ⟨j + 1, by omega, by omega, by go_num, by have h := hAr.trans (hA5.trans hA6); rw [show j + 1 - 1 = j - 1 + 1 by have := HJ.out; omega, HST1.out]; simpa [sepC] using h⟩
        case measure => simp [intOf]; omega
    · have hke : j - 1 = ys.length := by rw [HD.out]; omega
      rw [hke] at hAr
      have hje : j = x.l.length := by omega
      have i5 : ¬ (j : Int) < (x.l.length : Int) := by omega
      clear hke hje
      go_wp2_with (at_builtin; refine wpList_pushC rfl (.tmp 100) (.tmp 101) rfl 125 125 rfl rfl hAr.own rfl (by have := HLN.out; have := HPL.out; rw [List.length_append]; omega) hBwr ?_; intro v6 w6 hA6)
      go_ret
      exact ⟨v6, rfl, by have h := hR4.trans (hAr.trans hA6); rw [← HPR.out] at h; simpa using h⟩
end Go.Proofs.YtijmnenojbfdnaaGreatDoor

namespace Go.Proofs.YtijmnenojbfdnaaGreatDoor
open Go.RowKit
theorem wpList_appendC {base : Nat} {w : World} {v : Value} {l : List UInt8} {o : Oper} {a : Act} {Q : Exit → Act → World → Prop} {ops : Array Oper} {rest : List Oper} (hgd : o.guard = none) (sl x : Operand) (ho : o.op = .call { callee := .builtin .append, args := #[sl, x], argTypes := #[90, 90] }) (hs : a.eval sl = v) (hown : OwnC w base v l) {base' : Nat} {u : Value} {m : List UInt8} (hx : a.eval x = u) (hu : OwnC w base' u m) (hn : l.length + m.length < 10000000) (hbase : base ≤ w.heap.size)
    (h : ∀ v' w', Adds base w v (l ++ m) w' v' → wpList Tryz.prog ops Q rest (a.put o.dst v') w') : wpList Tryz.prog ops Q (o :: rest) a w :=
  wpList_plain hgd fun _ hK => wp_appendC sl x ho hs hown hx hu hn hbase fun v' w' h2 => hK _ _ (h v' w' h2)
def WriteRB (n : Nat) : Prop := ∀ (u : Value) (x : Ex) (asks : Nat) (w : World) (base : Nat) (v : Value) (l : List UInt8), ¬ levB x.op.toNat < asks → asks ≤ 9 → okX x = true → OwnC w base v l → base ≤ w.heap.size → IsEx n (Lt base) w u x →
  l.length + (txB (n + 1) x asks).length ≤ 1000000 →
  Calls Tryz.prog 58 #[v, u, .int .i64 (asks : Int)] w (RetAdds base w v (l ++ txB (n + 1) x asks))
set_option maxHeartbeats 8000000 in
set_option maxRecDepth 100000 in
theorem writeR_br (n : Nat) (hB : WriteRB n) : WriteR n := by
  intro u x asks w base v l ha hok hown hbase hx hlen
  by_cases hlt : levB x.op.toNat < asks
  · have hsh : shapeX x = true := by
      rw [okX_eq, Bool.and_eq_true, Bool.and_eq_true] at hok
      exact hok.1.1
    have hop := shape_op hsh
    rw [txB_br hlt] at hlen ⊢
    have hln : l.length + (txB (n + 1) x 0).length + 2 ≤ 1000000 := by simp only [List.length_append, List.length_cons, List.length_nil] at hlen; omega
    obtain ⟨lv, rfl, _, Ax, cx, rfl⟩ := hx.cells
    have HLV : Hid (∀ W, Calls Tryz.prog 100 #[.int .i64 x.op] W fun e w' => e = .returned (.int .i64 (levB x.op.toNat : Int)) ∧ W = w') := by
      show ∀ W, _
      intro W
      have := level_ref x.op.toNat W (by omega) (by omega)
      rw [show ((x.op.toNat : Nat) : Int) = x.op by omega] at this
      exact this
    have HB0 : Hid (∀ v l w', Below base w w' → OwnC w' base v l → base ≤ w'.heap.size → l.length + (txB (n + 1) x 0).length ≤ 1000000 → Calls Tryz.prog 58 #[v, exV x (.slice Ax x.l.length cx), .int .i64 0] w' (RetAdds base w' v (l ++ txB (n + 1) x 0))) :=
      fun v l w' h1 h2 h3 h4 => hB _ x 0 w' base v l (by omega) (by omega) hok h2 h3 (hx.below h1 (Nat.le_refl _)) h4
    have HLN := Lib.hid hln
    have hlv : (levB x.op.toNat : Int) < (asks : Int) := by omega
    have hb0 := bone w (.cells #[.int .i64 x.op, .int .i64 x.v.kind, .int .i64 x.v.n, .string x.v.s, .string x.s, .slice Ax x.l.length cx] 28)
    have hN0 := Blk.new w 28 #[.int .i64 x.op, .int .i64 x.v.kind, .int .i64 x.v.n, .string x.v.s, .string x.s, .slice Ax x.l.length cx]
    have hB0' : Below base w _ := hb0.mono hbase
    have hS0' := Nat.le_trans hbase hb0.size
    have hV0' := hown.now hb0
    have hR0' := (Adds.refl hown).post hb0
    clear hsh hop hlen hln hlt hB hx hok hown
    go_enter Tryz.func58, Tryz.ntmps58
    obtain ⟨n0, n1, n2, n3, n4, n5⟩ := hN0.c6
    go_wp2_with fail
    refine (HLV.out _).mono ?_
    rintro e w2 ⟨rfl, rfl⟩
    generalize hw1 : w.alloc (.cells #[.int .i64 x.op, .int .i64 x.v.kind, .int .i64 x.v.n, .string x.v.s, .string x.s, .slice Ax x.l.length cx] 28) = wq at *
    clear hw1 HLV
    go_wp2_with fail
    refine wp_region_held_tail 6 (fun W => W.cell? ⟨w.heap.size, 0, none⟩ = some (.int .i64 x.op) ∧ W.cell? ⟨w.heap.size, 1, none⟩ = some (.int .i64 x.v.kind) ∧ W.cell? ⟨w.heap.size, 2, none⟩ = some (.int .i64 x.v.n) ∧ W.cell? ⟨w.heap.size, 3, none⟩ = some (.string x.v.s) ∧ W.cell? ⟨w.heap.size, 4, none⟩ = some (.string x.s) ∧ W.cell? ⟨w.heap.size, 5, none⟩ = some (.slice Ax x.l.length cx)) (by kernel_rfl) (by kernel_rfl) ⟨n0, n1, n2, n3, n4, n5⟩ (fun hHeld => ?_)
    simp only [List.take_succ_cons, List.take_zero]
    have hNd : Blk wq.drew w.heap.size 28 #[.int .i64 x.op, .int .i64 x.v.kind, .int .i64 x.v.n, .string x.v.s, .string x.s, .slice Ax x.l.length cx] := hN0
    have hBd : Below base w wq.drew := hB0'.drew
    have hSd : base ≤ wq.drew.heap.size := hS0'
    have hVd : OwnC wq.drew base v l := hV0'
    have hRd : Adds base w v l wq.drew v := ⟨hVd, grown_drewN' hR0'.grown 1, hR0'.hat⟩
    clear hN0 hB0' hS0' hV0' hR0' n0 n1 n2 n3 n4 n5 hb0
    generalize wq.drew = wd at *
    refine takeL (v := ?v0) 0 rfl (by kernel_rfl) (by kernel_rfl) (by kernel_rfl) (fun _ _ _ h => h) rfl ?hy0 hHeld ?rest0
    case hy0 => (intro W hW; obtain ⟨k5, k6, k7, k8, k9, k10⟩ := hW; go_simp <;> rfl)
    simp only [Act.put, List.setIfInBounds_toArray, List.set_cons_zero, List.set_cons_succ]
    refine takeL (v := ?v3) 3 rfl (by kernel_rfl) (by kernel_rfl) (by kernel_rfl) (fun _ _ _ h => h) rfl ?hy3 hHeld ?rest3
    case hy3 => (intro W hW; obtain ⟨k5, k6, k7, k8, k9, k10⟩ := hW; go_simp <;> rfl)
    simp only [Act.put, List.setIfInBounds_toArray, List.set_cons_zero, List.set_cons_succ]
    refine twoL 1 5 rfl rfl rfl rfl (by kernel_rfl) (fun K hK => ?_) (fun K hK => ?_)
    · go_simp
      have hbb1 := bone wd (.cells #[.int .u8 40] 5)
      have hN1 := hNd.now hbb1
      refine hK.out _ _ hN1.c6 (fun hHeld => ?_)
      clear hK K
      have hX1 : OwnC (wd.alloc (.cells #[.int .u8 40] 5)) wd.heap.size (.slice (some ⟨wd.heap.size, 0, none⟩) 1 1) [40] := OwnC.one wd 40
      have hV1 := hVd.now hbb1
      have hR1 := hRd.post hbb1
      have hB1 := hBd.trans (hbb1.mono hSd)
      have hS1 := Nat.le_trans hSd hbb1.size
      have hz1 : (wd.alloc (.cells #[.int .u8 40] 5)).heap.size = wd.heap.size + 1 := World.size_alloc _ _
      have hL1 : ∀ g, v.ownBlock = some g → g < wd.heap.size := fun g e => (World.ownsRow.lt hVd g e).2
      have hP1 := hX1
      have hzp : wd.heap.size < (wd.alloc (.cells #[.int .u8 40] 5)).heap.size := by omega
      generalize hw1 : wd.alloc (.cells #[.int .u8 40] 5) = w1 at *
      clear hw1 hbb1 hX1 hz1 hL1
      refine twoL 2 5 rfl rfl rfl rfl (by kernel_rfl) (fun K hK => ?_) (fun K hK => ?_)
      · refine wp_appendC (v := v) (.tmp 16) (.tmp 17) rfl rfl hV1 rfl hP1 (by have := HLN.out; show _ + 1 < _; omega) hS1 ?_
        intro v2 w2 hA2
        have hN2 := hA2.keep hV1 hN1 (by decide)
        refine hK.out _ _ hN2.c6 (fun hHeld => ?_)
        clear hK K
        have hbb2 := hA2.below hV1 hS1
        have hV2 := hA2.own
        have hR2 := hR1.trans hA2
        have hB2 := hB1.trans hbb2
        have hS2 := Nat.le_trans hS1 hbb2.size
        clear hA2 hbb2 hP1 hzp
        refine twoL 4 5 rfl rfl rfl rfl (by kernel_rfl) (fun K hK => ?_) (fun K hK => ?_)
        · go_simp
          refine (HB0.out v2 (l ++ [40]) w2 hB2 hV2 hS2 (by have := HLN.out; rw [List.length_append]; show _ + 1 + _ ≤ _; omega)).mono ?_
          rintro e w3 ⟨v3, rfl, hA3⟩
          have hN3 := hA3.keep hV2 hN2 (by decide)
          refine hK.out _ _ hN3.c6 (fun hHeld => ?_)
          clear hK K
          have hbb3 := hA3.below hV2 hS2
          have hV3 := hA3.own
          have hR3 := hR2.trans hA3
          have hB3 := hB2.trans hbb3
          have hS3 := Nat.le_trans hS2 hbb3.size
          clear hA3 hbb3
          refine onlyL 5 rfl rfl (by kernel_rfl) (fun K hK => ?_)
          go_simp
          have hbb4 := bone w3 (.cells #[.int .u8 41] 5)
          have hN4 := hN3.now hbb4
          refine hK.out _ _ hN4.c6 (fun hHeld => ?_)
          clear hK K
          have hX4 : OwnC (w3.alloc (.cells #[.int .u8 41] 5)) w3.heap.size (.slice (some ⟨w3.heap.size, 0, none⟩) 1 1) [41] := OwnC.one w3 41
          have hV4 := hV3.now hbb4
          have hR4 := hR3.post hbb4
          have hB4 := hB3.trans (hbb4.mono hS3)
          have hS4 := Nat.le_trans hS3 hbb4.size
          have hz4 : (w3.alloc (.cells #[.int .u8 41] 5)).heap.size = w3.heap.size + 1 := World.size_alloc _ _
          have hL4 : ∀ g, v3.ownBlock = some g → g < w3.heap.size := fun g e => (World.ownsRow.lt hV3 g e).2
          have hQ4 := hX4
          have hzq : w3.heap.size < (w3.alloc (.cells #[.int .u8 41] 5)).heap.size := by omega
          have hvq : v3.ownBlock ≠ some w3.heap.size := fun e => by have := hL4 _ e; omega
          generalize hw4 : w3.alloc (.cells #[.int .u8 41] 5) = w4 at *
          clear hw4 hbb4 hX4 hz4 hL4
          refine doneL (by kernel_rfl) ?_
          simp only [List.drop_succ_cons, List.drop_zero]
          go_wp2_with (at_builtin; refine wpList_appendC (v := v3) rfl (.tmp 20) (.tmp 21) rfl rfl hV4 rfl hQ4 (by have := HLN.out; simp only [List.length_append, List.length_cons, List.length_nil]; omega) hS4 ?_; intro v5 w5 hA5)
          go_ret
          exact ⟨v5, rfl, by have h := hR4.trans hA5; simpa using h⟩
        · go_simp
          have hbb6 := bone w2 (.cells #[.int .u8 41] 5)
          have hN6 := hN2.now hbb6
          refine hK.out _ _ hN6.c6 (fun hHeld => ?_)
          clear hK K
          have hX6 : OwnC (w2.alloc (.cells #[.int .u8 41] 5)) w2.heap.size (.slice (some ⟨w2.heap.size, 0, none⟩) 1 1) [41] := OwnC.one w2 41
          have hV6 := hV2.now hbb6
          have hR6 := hR2.post hbb6
          have hB6 := hB2.trans (hbb6.mono hS2)
          have hS6 := Nat.le_trans hS2 hbb6.size
          have hz6 : (w2.alloc (.cells #[.int .u8 41] 5)).heap.size = w2.heap.size + 1 := World.size_alloc _ _
          have hL6 : ∀ g, v2.ownBlock = some g → g < w2.heap.size := fun g e => (World.ownsRow.lt hV2 g e).2
          have hQ6 := hX6
          have hzq : w2.heap.size < (w2.alloc (.cells #[.int .u8 41] 5)).heap.size := by omega
          have hvq : v2.ownBlock ≠ some w2.heap.size := fun e => by have := hL6 _ e; omega
          generalize hw6 : w2.alloc (.cells #[.int .u8 41] 5) = w6 at *
          clear hw6 hbb6 hX6 hz6 hL6
          refine onlyL 4 rfl rfl (by kernel_rfl) (fun K hK => ?_)
          go_simp
          refine (HB0.out v2 (l ++ [40]) w6 hB6 hV6 hS6 (by have := HLN.out; rw [List.length_append]; show _ + 1 + _ ≤ _; omega)).mono ?_
          rintro e w7 ⟨v7, rfl, hA7⟩
          have hN7 := hA7.keep hV6 hN6 (by decide)
          refine hK.out _ _ hN7.c6 (fun hHeld => ?_)
          clear hK K
          have hbb7 := hA7.below hV6 hS6
          have hV7 := hA7.own
          have hR7 := hR6.trans hA7
          have hB7 := hB6.trans hbb7
          have hS7 := Nat.le_trans hS6 hbb7.size
          have hQ7 : OwnC w7 _ _ [41] := World.ownsRow.kept hQ6 hA7.grown (.inr (fun e => hvq e.symm))
          clear hvq
          clear hA7 hbb7
          refine doneL (by kernel_rfl) ?_
          simp only [List.drop_succ_cons, List.drop_zero]
          go_wp2_with (at_builtin; refine wpList_appendC (v := v7) rfl (.tmp 20) (.tmp 21) rfl rfl hV7 rfl hQ7 (by have := HLN.out; simp only [List.length_append, List.length_cons, List.length_nil]; omega) hS7 ?_; intro v8 w8 hA8)
          go_ret
          exact ⟨v8, rfl, by have h := hR7.trans hA8; simpa using h⟩
      · go_simp
        have hbb9 := bone w1 (.cells #[.int .u8 41] 5)
        have hN9 := hN1.now hbb9
        refine hK.out _ _ hN9.c6 (fun hHeld => ?_)
        clear hK K
        have hX9 : OwnC (w1.alloc (.cells #[.int .u8 41] 5)) w1.heap.size (.slice (some ⟨w1.heap.size, 0, none⟩) 1 1) [41] := OwnC.one w1 41
        have hV9 := hV1.now hbb9
        have hR9 := hR1.post hbb9
        have hB9 := hB1.trans (hbb9.mono hS1)
        have hS9 := Nat.le_trans hS1 hbb9.size
        have hz9 : (w1.alloc (.cells #[.int .u8 41] 5)).heap.size = w1.heap.size + 1 := World.size_alloc _ _
        have hL9 : ∀ g, v.ownBlock = some g → g < w1.heap.size := fun g e => (World.ownsRow.lt hV1 g e).2
        have hP9 := hP1.now hbb9
        replace hzp := Nat.lt_of_lt_of_le hzp hbb9.size
        have hQ9 := hX9
        have hzq : w1.heap.size < (w1.alloc (.cells #[.int .u8 41] 5)).heap.size := by omega
        have hvq : v.ownBlock ≠ some w1.heap.size := fun e => by have := hL9 _ e; omega
        generalize hw9 : w1.alloc (.cells #[.int .u8 41] 5) = w9 at *
        clear hw9 hbb9 hX9 hz9 hL9
        refine onlyL 2 rfl rfl (by kernel_rfl) (fun K hK => ?_)
        refine wp_appendC (v := v) (.tmp 16) (.tmp 17) rfl rfl hV9 rfl hP9 (by have := HLN.out; show _ + 1 < _; omega) hS9 ?_
        intro v10 w10 hA10
        have hN10 := hA10.keep hV9 hN9 (by decide)
        refine hK.out _ _ hN10.c6 (fun hHeld => ?_)
        clear hK K
        have hbb10 := hA10.below hV9 hS9
        have hV10 := hA10.own
        have hR10 := hR9.trans hA10
        have hB10 := hB9.trans hbb10
        have hS10 := Nat.le_trans hS9 hbb10.size
        have hQ10 : OwnC w10 _ _ [41] := World.ownsRow.kept hQ9 hA10.grown (.inr (fun e => hvq e.symm))
        have hvq10 : v10.ownBlock ≠ some w1.heap.size := fun e => by
          rcases hA10.hat _ e with e | e
          · exact hvq e
          · omega
        replace hvq := hvq10
        replace hzq := Nat.lt_of_lt_of_le hzq hA10.grown.size
        clear hvq10
        clear hA10 hbb10 hP9 hzp
        refine onlyL 4 rfl rfl (by kernel_rfl) (fun K hK => ?_)
        go_simp
        refine (HB0.out v10 (l ++ [40]) w10 hB10 hV10 hS10 (by have := HLN.out; rw [List.length_append]; show _ + 1 + _ ≤ _; omega)).mono ?_
        rintro e w11 ⟨v11, rfl, hA11⟩
        have hN11 := hA11.keep hV10 hN10 (by decide)
        refine hK.out _ _ hN11.c6 (fun hHeld => ?_)
        clear hK K
        have hbb11 := hA11.below hV10 hS10
        have hV11 := hA11.own
        have hR11 := hR10.trans hA11
        have hB11 := hB10.trans hbb11
        have hS11 := Nat.le_trans hS10 hbb11.size
        have hQ11 : OwnC w11 _ _ [41] := World.ownsRow.kept hQ10 hA11.grown (.inr (fun e => hvq e.symm))
        clear hvq
        clear hA11 hbb11
        refine doneL (by kernel_rfl) ?_
        simp only [List.drop_succ_cons, List.drop_zero]
        go_wp2_with (at_builtin; refine wpList_appendC (v := v11) rfl (.tmp 20) (.tmp 21) rfl rfl hV11 rfl hQ11 (by have := HLN.out; simp only [List.length_append, List.length_cons, List.length_nil]; omega) hS11 ?_; intro v12 w12 hA12)
        go_ret
        exact ⟨v12, rfl, by have h := hR11.trans hA12; simpa using h⟩
    · go_simp
      have hbb13 := bone wd (.cells #[.int .u8 41] 5)
      have hN13 := hNd.now hbb13
      refine hK.out _ _ hN13.c6 (fun hHeld => ?_)
      clear hK K
      have hX13 : OwnC (wd.alloc (.cells #[.int .u8 41] 5)) wd.heap.size (.slice (some ⟨wd.heap.size, 0, none⟩) 1 1) [41] := OwnC.one wd 41
      have hV13 := hVd.now hbb13
      have hR13 := hRd.post hbb13
      have hB13 := hBd.trans (hbb13.mono hSd)
      have hS13 := Nat.le_trans hSd hbb13.size
      have hz13 : (wd.alloc (.cells #[.int .u8 41] 5)).heap.size = wd.heap.size + 1 := World.size_alloc _ _
      have hL13 : ∀ g, v.ownBlock = some g → g < wd.heap.size := fun g e => (World.ownsRow.lt hVd g e).2
      have hQ13 := hX13
      have hzq : wd.heap.size < (wd.alloc (.cells #[.int .u8 41] 5)).heap.size := by omega
      have hvq : v.ownBlock ≠ some wd.heap.size := fun e => by have := hL13 _ e; omega
      generalize hw13 : wd.alloc (.cells #[.int .u8 41] 5) = w13 at *
      clear hw13 hbb13 hX13 hz13 hL13
      refine onlyL 1 rfl rfl (by kernel_rfl) (fun K hK => ?_)
      go_simp
      have hbb14 := bone w13 (.cells #[.int .u8 40] 5)
      have hN14 := hN13.now hbb14
      refine hK.out _ _ hN14.c6 (fun hHeld => ?_)
      clear hK K
      have hX14 : OwnC (w13.alloc (.cells #[.int .u8 40] 5)) w13.heap.size (.slice (some ⟨w13.heap.size, 0, none⟩) 1 1) [40] := OwnC.one w13 40
      have hV14 := hV13.now hbb14
      have hR14 := hR13.post hbb14
      have hB14 := hB13.trans (hbb14.mono hS13)
      have hS14 := Nat.le_trans hS13 hbb14.size
      have hz14 : (w13.alloc (.cells #[.int .u8 40] 5)).heap.size = w13.heap.size + 1 := World.size_alloc _ _
      have hL14 : ∀ g, v.ownBlock = some g → g < w13.heap.size := fun g e => (World.ownsRow.lt hV13 g e).2
      have hQ14 := hQ13.now hbb14
      replace hzq := Nat.lt_of_lt_of_le hzq hbb14.size
      have hP14 := hX14
      have hzp : w13.heap.size < (w13.alloc (.cells #[.int .u8 40] 5)).heap.size := by omega
      generalize hw14 : w13.alloc (.cells #[.int .u8 40] 5) = w14 at *
      clear hw14 hbb14 hX14 hz14 hL14
      refine onlyL 2 rfl rfl (by kernel_rfl) (fun K hK => ?_)
      refine wp_appendC (v := v) (.tmp 16) (.tmp 17) rfl rfl hV14 rfl hP14 (by have := HLN.out; show _ + 1 < _; omega) hS14 ?_
      intro v15 w15 hA15
      have hN15 := hA15.keep hV14 hN14 (by decide)
      refine hK.out _ _ hN15.c6 (fun hHeld => ?_)
      clear hK K
      have hbb15 := hA15.below hV14 hS14
      have hV15 := hA15.own
      have hR15 := hR14.trans hA15
      have hB15 := hB14.trans hbb15
      have hS15 := Nat.le_trans hS14 hbb15.size
      have hQ15 : OwnC w15 _ _ [41] := World.ownsRow.kept hQ14 hA15.grown (.inr (fun e => hvq e.symm))
      have hvq15 : v15.ownBlock ≠ some wd.heap.size := fun e => by
        rcases hA15.hat _ e with e | e
        · exact hvq e
        · omega
      replace hvq := hvq15
      replace hzq := Nat.lt_of_lt_of_le hzq hA15.grown.size
      clear hvq15
      clear hA15 hbb15 hP14 hzp
      refine onlyL 4 rfl rfl (by kernel_rfl) (fun K hK => ?_)
      go_simp
      refine (HB0.out v15 (l ++ [40]) w15 hB15 hV15 hS15 (by have := HLN.out; rw [List.length_append]; show _ + 1 + _ ≤ _; omega)).mono ?_
      rintro e w16 ⟨v16, rfl, hA16⟩
      have hN16 := hA16.keep hV15 hN15 (by decide)
      refine hK.out _ _ hN16.c6 (fun hHeld => ?_)
      clear hK K
      have hbb16 := hA16.below hV15 hS15
      have hV16 := hA16.own
      have hR16 := hR15.trans hA16
      have hB16 := hB15.trans hbb16
      have hS16 := Nat.le_trans hS15 hbb16.size
      have hQ16 : OwnC w16 _ _ [41] := World.ownsRow.kept hQ15 hA16.grown (.inr (fun e => hvq e.symm))
      clear hvq
      clear hA16 hbb16
      refine doneL (by kernel_rfl) ?_
      simp only [List.drop_succ_cons, List.drop_zero]
      go_wp2_with (at_builtin; refine wpList_appendC (v := v16) rfl (.tmp 20) (.tmp 21) rfl rfl hV16 rfl hQ16 (by have := HLN.out; simp only [List.length_append, List.length_cons, List.length_nil]; omega) hS16 ?_; intro v17 w17 hA17)
      go_ret
      exact ⟨v17, rfl, by have h := hR16.trans hA17; simpa using h⟩
  · exact hB u x asks w base v l hlt ha hok hown hbase hx hlen
theorem write_ref : ∀ n, WriteR n := by
  intro n
  induction n using Nat.strongRecOn with
  | _ n ih =>
    refine writeR_br n ?_
    intro u x asks w base v l hlt ha hok hown hbase hx hlen
    have hs : shapeX x = true := by
      have := hok
      rw [okX_eq, Bool.and_eq_true, Bool.and_eq_true] at this
      exact this.1.1
    obtain ⟨s1, s2, s3, s4, s5, s6, s7, s8⟩ := shape_len hs
    by_cases h1 : x.op = 1
    · have hv : validV x.v = true := by
        unfold shapeX at hs
        rw [if_pos h1, Bool.and_eq_true] at hs
        exact hs.2
      exact writeR_const n u x asks w base v l h1 hlt hv hown hbase hx hlen
    by_cases h2 : x.op = 2
    · exact writeR_var n u x asks w base v l h2 hlt hown hbase hx hlen
    by_cases h3 : x.op = 3
    · exact writeR_not n ih u x asks w base v l h3 hlt hok (s3 h3) hown hbase hx hlen
    by_cases h4 : 4 ≤ x.op ∧ x.op ≤ 11
    · exact writeR_bin n ih u x asks w base v l h4 hlt hok (s4 h4) hown hbase hx hlen
    by_cases h12 : x.op = 12
    · exact writeR_if n ih u x asks w base v l h12 hlt hok (s5 h12) hown hbase hx hlen
    · have h13 : x.op = 13 := by omega
      exact writeR_in n ih u x asks w base v l h13 hlt hok (s6 h13) hown hbase hx hlen
end Go.Proofs.YtijmnenojbfdnaaGreatDoor

namespace Go.Proofs.YtijmnenojbfdnaaGreatDoor
open Go.RowKit
set_option maxHeartbeats 2000000 in
set_option maxRecDepth 100000 in
theorem textR_ref (n : Nat) (x : Ex) (u : Value) (w : World) (h : IsEx n (Lt w.heap.size) w u x) (hv : validX x = true) :
    Calls Tryz.prog 21 #[u] w fun e w' => e = .returned (.tuple #[.string (txE n x).1, .int .i64 (txE n x).2]) ∧ Below w.heap.size w w' := by
  have h0 := h
  obtain ⟨lv, rfl, _, Ax, cx, rfl⟩ := h.cells
  have hb1 := bone w (.cells #[.int .i64 x.op, .int .i64 x.v.kind, .int .i64 x.v.n, .string x.v.s, .string x.s, .slice Ax x.l.length cx] 28)
  have hN1 := Blk.new w 28 #[.int .i64 x.op, .int .i64 x.v.kind, .int .i64 x.v.n, .string x.v.s, .string x.s, .slice Ax x.l.length cx]
  have hx1 := h0.now hb1
  have hlen := valid_txB hv (n + 1) 0
  have hnil : ∀ W : World, OwnC W W.heap.size (.slice none 0 0) [] := fun W => OwnW.nil
  have hwr := write_ref n _ x 0 _ _ (.slice none 0 0) [] (by omega) (valid_ok hv) (hnil _) (Nat.le_refl _) hx1 (by show 0 + _ ≤ _; omega)
  rw [show ((0 : Nat) : Int) = 0 from rfl] at hwr
  have HW := Lib.hid hwr
  have HE1 : Hid (16384 < (txB (n + 1) x 0).length → txE n x = (⟨#[]⟩, 5)) := by show _ → _; intro h; unfold txE; rw [if_pos hv, if_pos h]
  have HE2 : Hid (¬ 16384 < (txB (n + 1) x 0).length → txE n x = (⟨(txB (n + 1) x 0).toArray⟩, 0)) := by show _ → _; intro h; unfold txE; rw [if_pos hv, if_neg h]
  clear h h0 hwr hx1
  go_enter Tryz.func21, Tryz.ntmps21
  obtain ⟨n0, n1, n2, n3, n4, n5⟩ := hN1.c6
  generalize hw1 : w.alloc (.cells #[.int .i64 x.op, .int .i64 x.v.kind, .int .i64 x.v.n, .string x.v.s, .string x.s, .slice Ax x.l.length cx] 28) = w1 at *
  go_upto_region 1 with fail
  clear hw1
  go_wp2_with fail
  (with_reducible refine HW.out.mono ?_)
  rintro e w2 ⟨v2, rfl, hA⟩
  rw [List.nil_append] at hA
  have hb2 := hA.below (hnil w1) (Nat.le_refl _)
  have hbw := bthen hb1 hb2
  have hown := hA.own
  obtain ⟨A2, c2, rfl⟩ : ∃ A c, v2 = .slice A (txB (n + 1) x 0).length c := by
    rcases hown.2 with ⟨rfl, h0⟩ | ⟨g, cap, cur, rfl, _⟩
    · exact ⟨none, 0, by rw [h0]⟩
    · exact ⟨_, _, rfl⟩
  have hconv := hown.conv
  clear hA HW n0 n1 n2 n3 n4 n5
  by_cases hbig : 16384 < (txB (n + 1) x 0).length
  · have HE := Lib.hid (HE1.out hbig)
    have hbi : (16384 : Int) < ((txB (n + 1) x 0).length : Int) := by omega
    clear HE1 HE2
    go_wp2_with fail
    go_ret2
    exact ⟨by rw [HE.out]; rfl, hbw⟩
  · have HE := Lib.hid (HE2.out hbig)
    have hbi : ¬ (16384 : Int) < ((txB (n + 1) x 0).length : Int) := by omega
    clear HE1 HE2
    go_wp2_with fail
    go_ret2
    exact ⟨by rw [HE.out]; rfl, hbw⟩
end Go.Proofs.YtijmnenojbfdnaaGreatDoor

namespace Go.Proofs.YtijmnenojbfdnaaGreatDoor
open Go.RowKit
theorem appStrs : AppInfo Tryz.prog 46 9 1 := AppInfo.mk' Tryz.underlying46 (by kernel_rfl) (bytes := 16) (z := .string ⟨#[]⟩) (by omega) rfl (by omega)
def RetIns (l : List Bs) (s : Bs) (w : World) (e : Ending) (w' : World) : Prop := ∃ v' r, e = .returned v' ∧ SlS (Lt w'.heap.size) w' v' (r.map mkS) ∧ InsRes l s r ∧ Below w.heap.size w w'
set_option maxHeartbeats 1000000 in
set_option maxRecDepth 100000 in
theorem insert_ref (v : Value) (l : List Bs) (s : ByteArray) (w : World) (hv : SlS (Lt w.heap.size) w v (l.map mkS)) (ha : Asc l) (hs : s.size ≤ maxLen) (hl : l.length ≤ 1000) :
    Calls Tryz.prog 103 #[v, .string s] w (RetIns l s.data.toList w) := by
  have HA := Lib.hid ha
  clear ha
  have hv0 := hv
  obtain ⟨A, c, rfl, h1, h2, hv⟩ := hv.open_
  rw [List.length_map] at h1 hv hv0 ⊢
  have HF : Hid (∀ x ∈ l, x.length ≤ maxLen) := fun x hx => by
    obtain ⟨q, hq, rfl⟩ := List.mem_iff_getElem.1 hx
    obtain ⟨_, _, z, _, _, hz, hf, _⟩ := hv.at_ (k := q) (by omega)
    rw [List.getElem?_map, List.getElem?_eq_getElem hq] at hz
    injection hz with hz
    rw [← hz] at hf; exact hf
  go_enter Tryz.func103, Tryz.ntmps103
  go_wp2_with fail
  go_loopw [5, 6, 7] (fun ov dv i wr => ∃ (k : Nat) (d : Bool) (out : List Bs), k ≤ l.length ∧ i = .int .i64 k ∧ dv = .bool d ∧ InsInv l s.data.toList k d out ∧ OwnS wr w.heap.size ov out ∧ Below w.heap.size w wr) (fun _ _ i _ => l.length - (intOf i).toNat)
  case atStart => exact ⟨0, false, [], Nat.zero_le _, rfl, rfl, InsInv.start _ _, World.ownsRow_nil _ _ _ _, Below.refl _ _⟩
  case round =>
    obtain ⟨k, d, out, hk, rfl, rfl, hinv, hown, hbr⟩ := hrel
    have hol := hinv.len
    have HI := Lib.hid hinv
    clear hinv
    have hols : out.length ≤ 1001 := by
      cases d <;> simp at hol <;> omega
    clear hol
    have hszr := hbr.size
    by_cases hlt : k < l.length
    · obtain ⟨b, o, x, rfl, hD, hx, hf, hcw⟩ := hv.at_ hlt
      have hc := (hbr.cell (p := ⟨b, o + k, none⟩) hD).trans hcw
      have HCW := Lib.hid hcw
      clear hcw
      obtain ⟨y, hy, hxy⟩ : ∃ y, l[k]? = some y ∧ mkS y = x := by
        rw [List.getElem?_map, Option.map_eq_some_iff] at hx
        exact hx
      have HY := Lib.hid hy
      have HXY : Hid (x.toList = y ∧ Value.string x = encStr y) := by
        subst hxy
        exact ⟨mkS_toList y, rfl⟩
      have HSL : Hid (s.toList = s.data.toList) := Lib.toList_data s
      clear hx hy hxy
      by_cases he : y = s.data.toList
      · have hd : (x.toList == s.toList) = true := by rw [HXY.out.1, HSL.out, he]; simp
        have HR : Hid (InsRes l s.data.toList l) := InsRes.same HA.out (by rw [← he]; exact List.mem_of_getElem? HY.out)
        clear he
        go_wp2_with fail
        go_ret
        exact ⟨_, l, rfl, hv0.now hbr, HR.out, hbr⟩
      have hd : (x.toList == s.toList) = false := by rw [HXY.out.1, HSL.out]; simpa using he
      have HE := Lib.hid he
      clear he
      cases d
      · by_cases hls : y < s.data.toList
        · have hd2 : Op.bytesLess x.toList s.toList = true := by rw [HXY.out.1, HSL.out, less_eq]; simpa using hls
          have HN := Lib.hid (HI.out.plain HA.out HY.out hls)
          clear hls
          go_wp2_with (at_builtin; refine wpList_push appStrs rfl (.tmp 35) (.tmp 40) rfl _ [.string x] rfl (by simp [Value.oneCell']) _ out.length (out.map encStr) rfl hown rfl (by omega) hszr ?_; intro v' w' hown' hgr hat)
          go_roundw
          case rel =>
            refine ⟨k + 1, false, out ++ [y], by omega, by go_num, rfl, HN.out, ?_, hbr.trans (below_of_grown hgr hszr (fun g hg => (hown.lt g hg).1))⟩
            unfold OwnS
            rw [List.length_append, List.map_append, List.map_cons, List.map_nil, ← HXY.out.2]
            exact hown'
          case measure => simp [intOf]; omega
        · have hd2 : Op.bytesLess x.toList s.toList = false := by rw [HXY.out.1, HSL.out, less_eq]; simpa using hls
          have HN := Lib.hid (HI.out.ins HY.out (bs_total hls HE.out))
          clear hls
          go_upto_region 11 with (at_builtin; refine wpList_push appStrs rfl (.tmp 31) (.tmp 33) rfl _ [.string s] rfl (by simp [Value.oneCell']) _ out.length (out.map encStr) rfl hown rfl (by omega) hszr ?_; intro v1 w1 hown1 hgr1 hat1)
          have hb1 : Below w.heap.size w w1 := hbr.trans (below_of_grown hgr1 hszr (fun g hg => (hown.lt g hg).1))
          have hc1 : w1.cell? ⟨b, o + k, none⟩ = some (.string x) := (hb1.cell (p := ⟨b, o + k, none⟩) hD).trans HCW.out
          have hown1' : OwnS w1 w.heap.size v1 (out ++ [s.data.toList]) := by
            unfold OwnS
            rw [List.length_append, List.map_append]
            have e : [s.data.toList].map encStr = [Value.string s] := by
              show [Value.string (mkS s.data.toList)] = _
              rw [mkS_of]
            rw [e]
            exact hown1
          have hl1 : (out ++ [s.data.toList]).length < 10000000 := by rw [List.length_append]; simp; omega
          clear hc hgr1 hat1 hown hown1
          go_wp2_with (at_builtin; refine wpList_push appStrs rfl (.tmp 35) (.tmp 40) rfl _ [.string x] rfl (by simp [Value.oneCell']) _ (out ++ [s.data.toList]).length ((out ++ [s.data.toList]).map encStr) rfl hown1' rfl hl1 hb1.size ?_; intro v' w' hown' hgr hat)
          go_roundw
          case rel =>
            refine ⟨k + 1, true, out ++ [s.data.toList] ++ [y], by omega, by go_num, rfl, HN.out, ?_, hb1.trans (below_of_grown hgr hb1.size (fun g hg => (hown1'.lt g hg).1))⟩
            unfold OwnS
            rw [List.length_append, List.map_append (l₁ := out ++ [s.data.toList]), List.map_cons, List.map_nil, ← HXY.out.2]
            exact hown'
          case measure => simp [intOf]; omega
      · have HN := Lib.hid (HI.out.after HA.out HY.out)
        go_wp2_with (at_builtin; refine wpList_push appStrs rfl (.tmp 35) (.tmp 40) rfl _ [.string x] rfl (by simp [Value.oneCell']) _ out.length (out.map encStr) rfl hown rfl (by omega) hszr ?_; intro v' w' hown' hgr hat)
        go_roundw
        case rel =>
          refine ⟨k + 1, true, out ++ [y], by omega, by go_num, rfl, HN.out, ?_, hbr.trans (below_of_grown hgr hszr (fun g hg => (hown.lt g hg).1))⟩
          unfold OwnS
          rw [List.length_append, List.map_append, List.map_cons, List.map_nil, ← HXY.out.2]
          exact hown'
        case measure => simp [intOf]; omega
    · have hkl : k = l.length := by omega
      have HFO : Hid (∀ r, InsRes l s.data.toList r → ∀ x ∈ r, x.length ≤ maxLen) := fun r hr x hx => by
        rcases (hr.2.1 x).1 hx with h' | h'
        · exact HF.out x h'
        · rw [h']; exact hs
      cases d
      · have HN := Lib.hid (HI.out.doneF hkl)
        go_wp2_with (at_builtin; refine wpList_push appStrs rfl (.tmp 44) (.tmp 46) rfl _ [.string s] rfl (by simp [Value.oneCell']) _ out.length (out.map encStr) rfl hown rfl (by omega) hszr ?_; intro v' w' hown' hgr hat)
        go_ret
        have hown1' : OwnS w' w.heap.size v' (out ++ [s.data.toList]) := by
          unfold OwnS
          rw [List.length_append, List.map_append]
          have e : [s.data.toList].map encStr = [Value.string s] := by
            show [Value.string (mkS s.data.toList)] = _
            rw [mkS_of]
          rw [e]
          exact hown'
        exact ⟨_, _, rfl, hown1'.slS (HFO.out _ HN.out), HN.out, hbr.trans (below_of_grown hgr hszr (fun g hg => (hown.lt g hg).1))⟩
      · have HN := Lib.hid (HI.out.doneT hkl)
        go_wp2_with fail
        go_ret
        exact ⟨_, _, rfl, OwnS.slS hown (HFO.out _ HN.out), HN.out, hbr⟩
end Go.Proofs.YtijmnenojbfdnaaGreatDoor
