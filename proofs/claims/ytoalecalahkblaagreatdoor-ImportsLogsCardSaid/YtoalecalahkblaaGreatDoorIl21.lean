/- Texts of this seat, merged. -/
import Derived.Lib.Atoi
import Derived.Lib.ItoaNum
import Derived.Lib.AtoiTie
import Derived.Test.YtoalecalahkblaaGreatDoorIl01
import Derived.Test.YtoalecalahkblaaGreatDoorIl02
import Derived.Test.YtoalecalahkblaaGreatDoorIl03
import Derived.Test.YtoalecalahkblaaGreatDoorIl04
import Derived.Test.YtoalecalahkblaaGreatDoorIl05
import Derived.Test.YtoalecalahkblaaGreatDoorIl06
import Derived.Test.YtoalecalahkblaaGreatDoorIl07
import Derived.Test.YtoalecalahkblaaGreatDoorIl08
import Derived.Test.YtoalecalahkblaaGreatDoorIl18
import Derived.Test.YtoalecalahkblaaGreatDoorIl20
set_option linter.all false
set_option linter.all false
namespace Go.Proofs.YtoalecalahkblaaGreatDoor
open Go.RowKit
end Go.Proofs.YtoalecalahkblaaGreatDoor

set_option linter.all false
namespace Go.Proofs.YtoalecalahkblaaGreatDoor
open Go.RowKit
def greatB (m : Mp) : Bool := decide (30 < m.data.length) || decide (30 < m.kinds.length)
theorem great_any (u : Value) (m : Mp) (w : World) (h : IsMp (Lt w.heap.size) w u m) :
    Calls Tryz.prog 15 #[u] w fun e w' => e = .returned (.bool (greatB m)) ∧ Below w.heap.size w w' := by
  obtain ⟨dv, kv, rfl, _, hd, hk⟩ := h
  obtain ⟨Ad, cd, rfl, _, _, _⟩ := hd.open_
  obtain ⟨Ak, ck, rfl, _, _, _⟩ := hk.open_
  unfold mpV
  obtain ⟨z, hz⟩ : ∃ z, (m.sep.toNat : Int) = z := ⟨_, rfl⟩
  rw [hz]
  have hb := bone w (.cells #[.int .i64 m.cas, .int .i64 m.act, .int .i64 m.res, .int .i64 m.life, .int .i64 m.time, .slice Ad m.data.length cd, .slice Ak m.kinds.length ck, .int .u8 z] 33)
  have hB := Blk.new w 33 #[.int .i64 m.cas, .int .i64 m.act, .int .i64 m.res, .int .i64 m.life, .int .i64 m.time, .slice Ad m.data.length cd, .slice Ak m.kinds.length ck, .int .u8 z]
  have HB := Lib.hid hb
  have HE : Hid (greatB m = (decide ((30 : Int) < (m.data.length : Int)) || decide ((30 : Int) < (m.kinds.length : Int)))) := by
    show _ = _
    unfold greatB
    congr 1
    · exact decide_eq_decide.2 (by omega)
    · exact decide_eq_decide.2 (by omega)
  obtain ⟨q1, hq1⟩ : ∃ q1, decide ((30 : Int) < (m.data.length : Int)) = q1 := ⟨_, rfl⟩
  obtain ⟨q2, hq2⟩ : ∃ q2, decide ((30 : Int) < (m.kinds.length : Int)) = q2 := ⟨_, rfl⟩
  rw [hq1, hq2] at HE
  obtain ⟨c0, c1, c2, c3, c4, c5, c6, c7⟩ := hB.c8m
  clear hd hk hz hb hB
  go_enter Tryz.func15, Tryz.ntmps15
  cases q1
  · go_wp2_with fail
    go_ret
    exact ⟨ret_bool (by rw [HE.out]; rfl), HB.out⟩
  · go_wp2_with fail
    go_ret
    exact ⟨ret_bool (by rw [HE.out]; rfl), HB.out⟩
end Go.Proofs.YtoalecalahkblaaGreatDoor

set_option linter.all false
namespace Go.Proofs.YtoalecalahkblaaGreatDoor
open Go.RowKit
def xwCase : Bt := [99, 97, 115, 101]
def xwAct : Bt := [97, 99, 116, 105, 118, 105, 116, 121]
def xwTime : Bt := [116, 105, 109, 101]
def xwRes : Bt := [114, 101, 115, 111, 117, 114, 99, 101]
def xwLife : Bt := [108, 105, 102, 101]
def startH (m : Mp) (width : Nat) : List Bt := setZ (setZ (setZ (List.replicate width []) m.cas xwCase) m.act xwAct) m.time xwTime
def resH (m : Mp) (r : List Bt) : List Bt := if 0 ≤ m.res then setZ r m.res xwRes else r
def lifeH (m : Mp) (r : List Bt) : List Bt := if 0 ≤ m.life then setZ r m.life xwLife else r
def zipH (ps : List (Int × Bs)) (r : List Bt) : List Bt := ps.foldl (fun r p => setZ r p.1 p.2) r
def RowsOk (wd : Nat) (acc : List (List Bt)) : Prop := ∀ r ∈ acc, r.length = wd ∧ CLe r
theorem RowsOk.push {wd : Nat} {acc : List (List Bt)} (h : RowsOk wd acc) {r : List Bt} (hl : r.length = wd) (hc : CLe r) : RowsOk wd (acc ++ [r]) := by
  intro x hx
  rcases List.mem_append.1 hx with hx | hx
  · exact h x hx
  · rw [List.mem_singleton] at hx; rw [hx]; exact ⟨hl, hc⟩
end Go.Proofs.YtoalecalahkblaaGreatDoor

set_option linter.all false
namespace Go.Proofs.YtoalecalahkblaaGreatDoor
open Go.RowKit
theorem column_ref (k : Int) (w : World) : Calls Tryz.prog 65 #[.int .i64 k] w fun e w' => e = .returned (.bool (decide (0 ≤ k) && decide (k < 40))) ∧ w = w' := by
  by_cases h : 0 ≤ k
  · go_enter Tryz.func65, Tryz.ntmps65
    go_wp2_with fail
    go_ret
    exact ⟨by rw [decide_eq_true h]; rfl, rfl⟩
  · go_enter Tryz.func65, Tryz.ntmps65
    go_wp2_with fail
    go_ret
    exact ⟨by rw [decide_eq_false (show ¬ 0 ≤ k by omega)]; rfl, rfl⟩
theorem word_ref (q : Nat) (hq : q < 6) (w : World) : Calls Tryz.prog 134 #[.int .i64 ((q : Int) + 1)] w fun e w' => e = .returned (.string (bsOf (lifeW.getD q []))) ∧ w = w' := by
  match q, hq with
  | 0, _ =>
    show Calls _ _ #[.int .i64 1] _ _
    go_enter Tryz.func134, Tryz.ntmps134
    go_wp2_with fail
    go_ret
    exact ⟨rfl, rfl⟩
  | 1, _ =>
    show Calls _ _ #[.int .i64 2] _ _
    go_enter Tryz.func134, Tryz.ntmps134
    go_wp2_with fail
    go_ret
    exact ⟨rfl, rfl⟩
  | 2, _ =>
    show Calls _ _ #[.int .i64 3] _ _
    go_enter Tryz.func134, Tryz.ntmps134
    go_wp2_with fail
    go_ret
    exact ⟨rfl, rfl⟩
  | 3, _ =>
    show Calls _ _ #[.int .i64 4] _ _
    go_enter Tryz.func134, Tryz.ntmps134
    go_wp2_with fail
    go_ret
    exact ⟨rfl, rfl⟩
  | 4, _ =>
    show Calls _ _ #[.int .i64 5] _ _
    go_enter Tryz.func134, Tryz.ntmps134
    go_wp2_with fail
    go_ret
    exact ⟨rfl, rfl⟩
  | 5, _ =>
    show Calls _ _ #[.int .i64 6] _ _
    go_enter Tryz.func134, Tryz.ntmps134
    go_wp2_with fail
    go_ret
    exact ⟨rfl, rfl⟩
def col1 (m : Mp) : List Int := [m.cas, m.act] ++ (if 0 ≤ m.res then [m.res] else [])
def col2 (m : Mp) : List Int := col1 m ++ (if 0 ≤ m.life then [m.life] else [])
def colsR (m : Mp) : List Int := (col2 m ++ [m.time]) ++ m.data
def colRF (B P : Nat) (m : Mp) (DV : Value) : Nat → Value → World → Prop
  | 0, u, W => OwnZ W B u (col2 m)
  | 1, u, _ => u = .pointer (some ⟨P, 4, none⟩)
  | 2, u, _ => u = .int .i64 m.time
  | 3, u, W => ∃ p : Nat, u = .slice (some ⟨p, 0, none⟩) 1 1 ∧ Blk W p 3 #[.int .i64 m.time]
  | 4, u, W => OwnZ W B u (col2 m ++ [m.time])
  | 5, u, _ => u = .pointer (some ⟨P, 5, none⟩)
  | 6, u, _ => u = DV
  | 7, u, W => OwnZ W B u (colsR m)
  | 8, u, W => OwnZ W B u (colsR m)
  | _, _, _ => True
def colD (j k : Nat) : Bool := ((j == 0 || j == 3) && (k == 4 || k == 7)) || (j == 4 && k == 7)
theorem colKeep {B P : Nat} {m : Mp} {DV : Value} {W W' : World} (hb : Below W.heap.size W W') : ∀ j u, colRF B P m DV j u W → colRF B P m DV j u W' := by
  intro j u h
  match j, h with
  | 0, h => exact own_now h hb
  | 1, h => exact h
  | 2, h => exact h
  | 3, h => obtain ⟨p, h1, h2⟩ := h; exact ⟨p, h1, h2.now hb⟩
  | 4, h => exact own_now h hb
  | 5, h => exact h
  | 6, h => exact h
  | 7, h => exact own_now h hb
  | 8, h => exact own_now h hb
  | n + 9, h => exact trivial
theorem ownZ_lit (w : World) (zs : List Int) (hz : zs.length ≤ maxLen) : OwnZ (w.alloc (.cells (zs.map (Value.int .i64)).toArray 3)) w.heap.size (.slice (some ⟨w.heap.size, 0, none⟩) zs.length zs.length) zs := by
  have := World.ownsRow_lit (base := w.heap.size) (e := 3) (size := 1) w (zs.map (Value.int .i64)).toArray zs.length (Nat.le_refl _) hz (by simp)
  exact this
theorem bs1 (z : Int) (W : World) : (Instr.buildSlice 31 1 #[(0, .int .i64 z)]).run Tryz.prog W = .ok (.slice (some ⟨W.heap.size, 0, none⟩) 1 1) (W.alloc (.cells #[.int .i64 z] 3)) := by kernel_rfl
theorem slI_fit {D : Nat → Prop} {w : World} {v : Value} {zs : List Int} (h : SlI D w v zs) : ∀ k ∈ zs, Fit k := by
  intro k hk
  obtain ⟨i, hi, rfl⟩ := List.mem_iff_getElem.1 hk
  obtain ⟨A, c, rfl, _, _, h⟩ := h.open_
  obtain ⟨_, _, z, _, _, hx, hf, _⟩ := SlI.at_ h hi
  rw [List.getElem?_eq_getElem hi] at hx
  injection hx with hx
  rw [hx]; exact hf
theorem ownZ_open {base : Nat} {w : World} {v : Value} {l : List Int} (h : OwnZ w base v l) : ∃ A c, v = .slice A l.length c := by
  rcases h.2 with ⟨rfl, h0⟩ | ⟨g, cap, cur, rfl, _⟩
  · rw [h0]; exact ⟨none, 0, rfl⟩
  · exact ⟨_, _, rfl⟩
theorem slI_one {W : World} {p : Nat} {z : Int} (h : Blk W p 3 #[.int .i64 z]) (hf : Fit z) : SlI (Lt W.heap.size) W (.slice (some ⟨p, 0, none⟩) 1 1) [z] :=
  Sl.ofBlk (xs := [z]) (cs := [.int .i64 z]) h (by unfold maxLen; simp) fun i x hx => by
    match i, hx with
    | 0, hx =>
      injection hx with hx
      subst hx
      exact ⟨[_], rfl, fun j u hu => by simpa using hu, rfl, hf⟩
    | i + 1, hx => simp at hx
set_option maxHeartbeats 4000000 in
set_option maxRecDepth 100000 in
theorem columns_ref (u : Value) (m : Mp) (w : World) (h : IsMp (Lt w.heap.size) w u m) (hb : m.data.length ≤ 1000000) :
    Calls Tryz.prog 64 #[u] w fun e w' => ∃ v, e = .returned v ∧ SlI (Lt w'.heap.size) w' v (colsR m) ∧ Below w.heap.size w w' := by
  obtain ⟨dv, kv, rfl, hfm, hd, hk⟩ := h
  have HDL := Lib.hid hb
  have HFM := Lib.hid hfm
  obtain ⟨Ad, cd, rfl, _, _, hd⟩ := hd.open_
  obtain ⟨Ak, ck, rfl, _, _, hk⟩ := hk.open_
  obtain ⟨z, hz⟩ : ∃ z, (m.sep.toNat : Int) = z := ⟨_, rfl⟩
  have HMD := Lib.hid hd
  unfold mpV
  rw [hz]
  clear hfm hd hk hz hb
  have HB1 := Lib.hid (bone w (.cells #[.int .i64 m.cas, .int .i64 m.act, .int .i64 m.res, .int .i64 m.life, .int .i64 m.time, .slice Ad m.data.length cd, .slice Ak m.kinds.length ck, .int .u8 z] 33))
  have HM1 := Lib.hid (Blk.new w 33 #[.int .i64 m.cas, .int .i64 m.act, .int .i64 m.res, .int .i64 m.life, .int .i64 m.time, .slice Ad m.data.length cd, .slice Ak m.kinds.length ck, .int .u8 z])
  go_enter Tryz.func64, Tryz.ntmps64
  go_upto_region 1 with fail
  obtain ⟨w1, hw1⟩ : ∃ w1, w.alloc (.cells #[.int .i64 m.cas, .int .i64 m.act, .int .i64 m.res, .int .i64 m.life, .int .i64 m.time, .slice Ad m.data.length cd, .slice Ak m.kinds.length ck, .int .u8 z] 33) = w1 := ⟨_, rfl⟩
  rw [hw1] at HB1 HM1 ⊢
  clear hw1
  obtain ⟨c0, c1, c2, c3, c4, c5, c6, c7⟩ := HM1.out.c8m
  have hb2 := bone w1 (.cells #[.int .i64 m.cas, .int .i64 m.act] 3)
  have ho2 := ownZ_lit w1 [m.cas, m.act] (by unfold maxLen; simp)
  go_upto_region 2 with fail
  obtain ⟨w2, hw2⟩ : ∃ w2, w1.alloc (.cells #[.int .i64 m.cas, .int .i64 m.act] 3) = w2 := ⟨_, rfl⟩
  have hw2' : w1.alloc (.cells ([m.cas, m.act].map (Value.int .i64)).toArray 3) = w2 := hw2
  rw [hw2'] at ho2
  rw [hw2] at hb2 ⊢
  have HO2 := Lib.hid ho2
  have HB2 := Lib.hid hb2
  clear hw2 hw2' ho2 c0 c1 c2 c3 c4 c5 c6 c7
  obtain ⟨c0, c1, c2, c3, c4, c5, c6, c7⟩ := (HM1.out.now hb2).c8m
  clear hb2
  obtain ⟨qr, hqr⟩ : ∃ qr, decide (0 ≤ m.res) = qr := ⟨_, rfl⟩
  go_upto_if 11 with fail
  have HQR := Lib.hid hqr
  clear hqr
  go_cut [3] from 12 to 16 (fun v W => OwnZ W w1.heap.size v (col1 m) ∧ Below w1.heap.size w1 W)
  case first =>
    cases qr with
    | false =>
      have HC : Hid (col1 m = [m.cas, m.act]) := by show _ = _; unfold col1; rw [if_neg (of_decide_eq_false HQR.out)]; rfl
      go_wp2_with fail
      go_meet
      rw [HC.out]
      exact ⟨HO2.out, HB2.out⟩
    | true =>
      have HC : Hid (col1 m = [m.cas, m.act] ++ [m.res]) := by show _ = _; unfold col1; rw [if_pos (of_decide_eq_true HQR.out)]
      have HS := Lib.hid HB2.out.size
      go_wp2_with (at_builtin; refine wpList_push appInts rfl (.tmp 12) (.tmp 15) rfl w2 [.int .i64 m.res] rfl (fun u hu => by simp at hu; subst hu; rfl) _ 2 ([m.cas, m.act].map (Value.int .i64)) rfl HO2.out rfl (by omega) HS.out ?_; intro v' w' hown hgr hat)
      have hbg := HB2.out.trans (below_of_grown hgr HS.out (fun g hg => (World.ownsRow.lt HO2.out g hg).1))
      go_meet
      rw [HC.out]
      exact ⟨hown, hbg⟩
  case rest =>
  obtain ⟨hown, hbw⟩ := hcut
  obtain ⟨w3, hw3⟩ : ∃ w3, wc = w3 := ⟨_, rfl⟩
  rw [hw3] at hown hbw ⊢
  have HO3 := Lib.hid hown
  have HB3 := Lib.hid hbw
  clear hw3 hown HO2 HB2 HQR c0 c1 c2 c3 c4 c5 c6 c7
  obtain ⟨c0, c1, c2, c3, c4, c5, c6, c7⟩ := (HM1.out.now hbw).c8m
  clear hbw
  have HL3 : Hid ((col1 m).length ≤ 3) := by show _ ≤ _; unfold col1; split <;> simp
  obtain ⟨qr, hqr⟩ : ∃ qr, decide (0 ≤ m.life) = qr := ⟨_, rfl⟩
  go_upto_if 19 with fail
  have HQR := Lib.hid hqr
  clear hqr
  go_cut [3] from 20 to 24 (fun v W => OwnZ W w1.heap.size v (col2 m) ∧ Below w1.heap.size w1 W)
  case first =>
    cases qr with
    | false =>
      have HC : Hid (col2 m = col1 m) := by show _ = _; unfold col2; rw [if_neg (of_decide_eq_false HQR.out), List.append_nil]
      go_wp2_with fail
      go_meet
      rw [HC.out]
      exact ⟨HO3.out, HB3.out⟩
    | true =>
      have HC : Hid (col2 m = col1 m ++ [m.life]) := by show _ = _; unfold col2; rw [if_pos (of_decide_eq_true HQR.out)]
      have HS := Lib.hid HB3.out.size
      go_wp2_with (at_builtin; refine wpList_push appInts rfl (.tmp 20) (.tmp 23) rfl w3 [.int .i64 m.life] rfl (fun u hu => by simp at hu; subst hu; rfl) _ (col1 m).length ((col1 m).map (Value.int .i64)) rfl HO3.out rfl (by have := HL3.out; omega) HS.out ?_; intro v' w' hown hgr hat)
      have hbg := HB3.out.trans (below_of_grown hgr HS.out (fun g hg => (World.ownsRow.lt HO3.out g hg).1))
      go_meet
      rw [HC.out]
      refine ⟨?_, hbg⟩
      unfold OwnZ
      rw [List.length_append, List.map_append]
      exact hown
  case rest =>
  obtain ⟨hown, hbw⟩ := hcut
  obtain ⟨w4, hw4⟩ : ∃ w4, wc = w4 := ⟨_, rfl⟩
  rw [hw4] at hown hbw ⊢
  obtain ⟨A3, k3, e3⟩ := ownZ_open hown
  subst e3
  have HO4 := Lib.hid hown
  have HB4 := Lib.hid hbw
  have HL4 : Hid ((col2 m).length ≤ 4) := by show _ ≤ _; unfold col2; have := HL3.out; rw [List.length_append]; split <;> simp <;> omega
  have HFA : Hid (∀ k ∈ colsR m, Fit k) := Lib.hid fun k hk => by
    unfold colsR col2 col1 at hk
    simp only [List.mem_append, List.mem_cons, List.not_mem_nil, or_false] at hk
    rcases hk with ((((h | h) | h) | h) | h) | h
    · rw [h]; exact HFM.out.cas
    · rw [h]; exact HFM.out.act
    · split at h
      · rw [List.mem_singleton] at h; rw [h]; exact HFM.out.res
      · simp at h
    · split at h
      · rw [List.mem_singleton] at h; rw [h]; exact HFM.out.life
      · simp at h
    · rw [h]; exact HFM.out.time
    · exact slI_fit HMD.out k h
  clear hw4 hown hbw HO3 HB3 HQR c0 c1 c2 c3 c4 c5 c6 c7 HL3
  go_upto_region 6 with fail
  go_cut [2] from 2 to 32 (fun v W => OwnZ W w1.heap.size v (colsR m) ∧ Below w1.heap.size w1 W)
  case first =>
    rename_i J1 K1 hJ hK
    refine wp_region_rel3 (by kernel_rfl) (by kernel_rfl) (by kernel_rfl) (fun U W => Below w1.heap.size w1 W ∧ (¬ U 4 → OwnZ W w1.heap.size (.slice A3 (col2 m).length k3) (col2 m))) (colRF w1.heap.size w.heap.size m (.slice Ad m.data.length cd)) colD ?h0 ?hstep ?hend ?hall
    case hall => exact hall_of (by kernel_rfl)
    case h0 => exact ⟨HB4.out.drew, fun _ => own_now HO4.out (Below.refl _ _).drew⟩
    case hstep =>
      intro i o ho listed ac W hsh hi hk hRR hM
      obtain ⟨hR, hRO⟩ := hRR
      obtain ⟨c0, c1, c2, c3, c4, c5, c6, c7⟩ := (HM1.out.now hR).c8m
      have nd : ∀ j : Nat, (j == 0 || j == 3 || j == 4) = false → ∀ k, colD j k = true → ¬ Up listed k := fun j hj k h => by
        unfold colD at h
        simp only [Bool.or_eq_false_iff] at hj
        rw [hj.1.1, hj.1.2, hj.2] at h
        cases h
      have h74 : Up listed 7 → Up listed 4 := fun h => hsh.up h (by kernel_rfl)
      match i, ho with
      | 0, ho =>
        injection ho with ho
        subst ho
        have e0 : ac.eval (.tmp 3) = .slice A3 (col2 m).length k3 := hk.same (s := 3) (by kernel_rfl)
        have h4 : OwnZ W w1.heap.size (.slice A3 (col2 m).length k3) (col2 m) := hRO (fun h => ready_not hi (hsh.up h (by kernel_rfl)))
        exact wpM_moveG _ rfl ⟨_, rfl, ⟨hR, fun h => hRO fun h' => h (.inr h')⟩, fun u hu => by rw [hu (by simp), e0]; exact h4, fun j _ _ _ _ u h => h⟩
      | 1, ho =>
        injection ho with ho
        subst ho
        have e0 : ac.eval (.tmp 1) = .pointer (some ⟨w.heap.size, 0, none⟩) := hk.same (s := 1) (by kernel_rfl)
        exact wpM_run (.pointer (some ⟨w.heap.size, 4, none⟩)) W (by simp only [execOp, e0]; simp [go_sem]) ⟨_, rfl, ⟨hR, fun h => hRO fun h' => h (.inr h')⟩, fun u hu => hu (by simp), fun j _ _ _ _ u h => h⟩
      | 2, ho =>
        injection ho with ho
        subst ho
        have e0 : ac.eval (.tmp 26) = .pointer (some ⟨w.heap.size, 4, none⟩) := hM 1 (by decide) (ready_up hi (by kernel_rfl)) (nd 1 rfl)
        exact wpM_run (.int .i64 m.time) W (by simp only [execOp, e0]; simp [go_sem, c4]) ⟨_, rfl, ⟨hR, fun h => hRO fun h' => h (.inr h')⟩, fun u hu => hu (by simp), fun j _ _ _ _ u h => h⟩
      | 3, ho =>
        injection ho with ho
        subst ho
        have e0 : ac.eval (.tmp 27) = .int .i64 m.time := hM 2 (by decide) (ready_up hi (by kernel_rfl)) (nd 2 rfl)
        have hbn := bone W (.cells #[.int .i64 m.time] 3)
        exact wpM_slice _ _ _ _ _ _ rfl (by simp [e0]) (bs1 m.time W) ⟨_, rfl, ⟨hR.trans (hbn.mono hR.size), fun h => own_now (hRO fun h' => h (.inr h')) hbn⟩, fun u hu => ⟨_, hu (by simp), Blk.new _ _ _⟩, fun j _ _ _ _ u h => colKeep hbn j u h⟩
      | 4, ho =>
        injection ho with ho
        subst ho
        have h4 := ready_not hi
        have nd0 : ∀ j, j = 0 ∨ j = 3 → ∀ k, colD j k = true → ¬ Up listed k := fun j hj k h => by
          unfold colD at h
          have hk' : k = 4 ∨ k = 7 := by
            rcases hj with rfl | rfl <;> simpa using h
          rcases hk' with rfl | rfl
          · exact h4
          · exact fun h7 => h4 (h74 h7)
        have e0 : OwnZ W w1.heap.size (ac.eval (.tmp 25)) (col2 m) := hM 0 (by decide) (ready_up hi (by kernel_rfl)) (nd0 0 (.inl rfl))
        obtain ⟨pb, e1, hBp⟩ := hM 3 (by decide) (ready_up hi (by kernel_rfl)) (nd0 3 (.inr rfl))
        have e1 : ac.eval (.tmp 28) = .slice (some ⟨pb, 0, none⟩) 1 1 := e1
        refine wp_appendAll appInts (.tmp 25) (.tmp 28) rfl W _ (col2 m).length ((col2 m).map (Value.int .i64)) rfl e0 _ [m.time] (Value.int .i64) e1 (slI_one hBp HFM.out.time) (fun y c h => by injection h.1 with h1 _) (fun y => rfl) (by have := HL4.out; simp; omega) hR.size ?_
        intro v' W' hown hgr hat
        have hbW : Below w1.heap.size W W' := below_of_grown hgr hR.size (fun g hg => (World.ownsRow.lt e0 g hg).1)
        refine ⟨_, rfl, ⟨hR.trans hbW, fun h => absurd (.inl rfl) h⟩, fun u hu => ?_, fun j hj hji hu hd u h => ?_⟩
        · rw [hu (by simp)]
          show OwnZ W' w1.heap.size v' (col2 m ++ [m.time])
          unfold OwnZ
          rw [List.length_append, List.map_append]
          exact hown
        · match j, hj, hji, hd, h with
          | 0, _, _, hd, _ => exact absurd hd (by decide)
          | 1, _, _, _, h => exact h
          | 2, _, _, _, h => exact h
          | 3, _, _, hd, _ => exact absurd hd (by decide)
          | 4, _, hji, _, _ => exact absurd rfl hji
          | 5, _, _, _, h => exact h
          | 6, _, _, _, h => exact h
          | 7, _, _, _, _ => exact absurd (h74 hu) h4
          | 8, _, _, _, _ => exact absurd (h74 (hsh.up hu (by kernel_rfl))) h4
          | n + 9, hj, _, _, _ => exact absurd hj (by simp)
      | 5, ho =>
        injection ho with ho
        subst ho
        have e0 : ac.eval (.tmp 1) = .pointer (some ⟨w.heap.size, 0, none⟩) := hk.same (s := 1) (by kernel_rfl)
        exact wpM_run (.pointer (some ⟨w.heap.size, 5, none⟩)) W (by simp only [execOp, e0]; simp [go_sem]) ⟨_, rfl, ⟨hR, fun h => hRO fun h' => h (.inr h')⟩, fun u hu => hu (by simp), fun j _ _ _ _ u h => h⟩
      | 6, ho =>
        injection ho with ho
        subst ho
        have e0 : ac.eval (.tmp 30) = .pointer (some ⟨w.heap.size, 5, none⟩) := hM 5 (by decide) (ready_up hi (by kernel_rfl)) (nd 5 rfl)
        exact wpM_run (.slice Ad m.data.length cd) W (by simp only [execOp, e0]; simp [go_sem, c5]) ⟨_, rfl, ⟨hR, fun h => hRO fun h' => h (.inr h')⟩, fun u hu => hu (by simp), fun j _ _ _ _ u h => h⟩
      | 7, ho =>
        injection ho with ho
        subst ho
        have h7 := ready_not hi
        have e0 : OwnZ W w1.heap.size (ac.eval (.tmp 29)) (col2 m ++ [m.time]) := hM 4 (by decide) (ready_up hi (by kernel_rfl)) (fun k h => by
          have hk' : k = 7 := by simpa [colD] using h
          rw [hk']; exact h7)
        have e1 : ac.eval (.tmp 31) = .slice Ad m.data.length cd := hM 6 (by decide) (ready_up hi (by kernel_rfl)) (nd 6 rfl)
        refine wp_appendAll appInts (.tmp 29) (.tmp 31) rfl W _ (col2 m ++ [m.time]).length ((col2 m ++ [m.time]).map (Value.int .i64)) rfl e0 _ m.data (Value.int .i64) e1 (HMD.out.now (bthen HB1.out hR)) (fun y c h => by injection h.1 with h1 _) (fun y => rfl) (by have := HL4.out; have := HDL.out; simp; omega) hR.size ?_
        intro v' W' hown hgr hat
        have hbW : Below w1.heap.size W W' := below_of_grown hgr hR.size (fun g hg => (World.ownsRow.lt e0 g hg).1)
        have u4 : Up listed 4 := ready_up hi (by kernel_rfl)
        refine ⟨_, rfl, ⟨hR.trans hbW, fun h => absurd (.inr u4) h⟩, fun u hu => ?_, fun j hj hji hu hd u h => ?_⟩
        · rw [hu (by simp)]
          show OwnZ W' w1.heap.size v' (colsR m)
          unfold OwnZ colsR
          rw [List.length_append, List.map_append]
          exact hown
        · match j, hj, hji, hd, h with
          | 0, _, _, hd, _ => exact absurd hd (by decide)
          | 1, _, _, _, h => exact h
          | 2, _, _, _, h => exact h
          | 3, _, _, hd, _ => exact absurd hd (by decide)
          | 4, _, _, hd, _ => exact absurd hd (by decide)
          | 5, _, _, _, h => exact h
          | 6, _, _, _, h => exact h
          | 7, _, hji, _, _ => exact absurd rfl hji
          | 8, _, _, _, _ => exact absurd (hsh.up hu (by kernel_rfl)) h7
          | n + 9, hj, _, _, _ => exact absurd hj (by simp)
      | 8, ho =>
        injection ho with ho
        subst ho
        have e0 : OwnZ W w1.heap.size (ac.eval (.tmp 32)) (colsR m) := hM 7 (by decide) (ready_up hi (by kernel_rfl)) (nd 7 rfl)
        have u4 : Up listed 4 := h74 (ready_up hi (by kernel_rfl))
        exact wpM_assign _ _ rfl rfl ⟨_, rfl, ⟨hR, fun h => absurd (.inr u4) h⟩, fun u hu => by rw [hu (by simp)]; exact e0, fun j _ _ _ _ u h => h⟩
      | n + 9, ho => simp at ho
    case hend =>
      intro ac W U hk hR hM
      have x8 : OwnZ W w1.heap.size (Act.slot ac 2) (colsR m) := hM 8 (by decide) (fun k => rfl)
      refine hK _ _ ?_
      obtain ⟨v2, hv2⟩ : ∃ v2, Act.slot ac 2 = v2 := ⟨_, rfl⟩
      rw [hv2] at x8
      rw [hk.form (by kernel_rfl)]
      simp only [putsAll, Option.getD_some, Act.put, List.setIfInBounds_toArray, List.set_cons_zero, List.set_cons_succ, hv2]
      go_meet
      exact ⟨x8, hR.1⟩
  case rest =>
  obtain ⟨hown, hbw⟩ := hcut
  have HOW := Lib.hid hown
  have HBW := Lib.hid hbw
  clear hown hbw
  go_wp2_with fail
  go_ret
  exact ⟨_, rfl, SlI.of_own HOW.out HFA.out, HB1.out.trans (HBW.out.mono HB1.out.size)⟩
end Go.Proofs.YtoalecalahkblaaGreatDoor

set_option linter.all false
namespace Go.Proofs.YtoalecalahkblaaGreatDoor
open Go.RowKit
theorem u8n {k : Nat} (h : k < 256) : (UInt8.ofNat k).toNat = k := by rw [UInt8.toNat_ofNat']; exact Nat.mod_eq_of_lt h
def digB (c : UInt8) : Bool := decide (48 ≤ c.toNat) && decide (c.toNat ≤ 57)
theorem digitVal_dig {c : UInt8} (h : digB c = true) : Lib.digitVal c = some (c.toNat - 48) := by
  unfold digB at h
  rw [Bool.and_eq_true, decide_eq_true_eq, decide_eq_true_eq] at h
  unfold Lib.digitVal; rw [if_pos h]
theorem decFrom_digs : ∀ (l : Bt) (acc : Nat), l.all digB = true → ∃ n, Lib.decFrom acc l = some n ∧ acc * 10 ^ l.length ≤ n
  | [], acc, _ => ⟨acc, rfl, by simp⟩
  | c :: l, acc, h => by
    rw [List.all_cons, Bool.and_eq_true] at h
    obtain ⟨n, h1, h2⟩ := decFrom_digs l (acc * 10 + (c.toNat - 48)) h.2
    refine ⟨n, ?_, Nat.le_trans ?_ h2⟩
    · unfold Lib.decFrom; rw [digitVal_dig h.1]; exact h1
    · rw [List.length_cons, Nat.pow_succ, Nat.mul_comm (10 ^ l.length) 10, ← Nat.mul_assoc]
      exact Nat.mul_le_mul_right _ (Nat.le_add_right _ _)
theorem decDigits_from : ∀ (l : Bt) (acc n : Nat), 1 ≤ acc → l.all digB = true → Lib.decFrom acc l = some n → Lib.decDigits n = Lib.decDigits acc ++ l
  | [], acc, n, _, _, h => by
    have h : some acc = some n := h
    injection h with h; rw [← h, List.append_nil]
  | c :: l, acc, n, ha, hd, h => by
    rw [List.all_cons, Bool.and_eq_true] at hd
    unfold Lib.decFrom at h
    rw [digitVal_dig hd.1] at h
    have hc := hd.1
    unfold digB at hc
    rw [Bool.and_eq_true, decide_eq_true_eq, decide_eq_true_eq] at hc
    have ih := decDigits_from l (acc * 10 + (c.toNat - 48)) n (by omega) hd.2 h
    have e : Lib.decDigits (acc * 10 + (c.toNat - 48)) = Lib.decDigits acc ++ [c] := by
      rw [Lib.decDigits, dif_neg (by omega), show (acc * 10 + (c.toNat - 48)) / 10 = acc by omega, show (acc * 10 + (c.toNat - 48)) % 10 = c.toNat - 48 by omega, show 48 + (c.toNat - 48) = c.toNat by omega, UInt8.ofNat_toNat]
    rw [ih, e, List.append_assoc]; rfl
def canonB (l : Bt) : Bool := !l.isEmpty && l.all digB && (decide (l.length = 1) || decide (l.head? ≠ some 48))
theorem decDigits_canon {l : Bt} (h : canonB l = true) : ∃ n, Lib.decNat l = some n ∧ Lib.decDigits n = l := by
  cases l with
  | nil => simp [canonB] at h
  | cons c l =>
    unfold canonB at h
    rw [Bool.and_eq_true, Bool.and_eq_true] at h
    obtain ⟨⟨_, hd⟩, hh⟩ := h
    rw [List.all_cons, Bool.and_eq_true] at hd
    have hc := hd.1
    unfold digB at hc
    rw [Bool.and_eq_true, decide_eq_true_eq, decide_eq_true_eq] at hc
    have e1 : Lib.decDigits (c.toNat - 48) = [c] := by
      rw [Lib.decDigits, dif_pos (by omega), show 48 + (c.toNat - 48) = c.toNat by omega, UInt8.ofNat_toNat]
    have e0 : Lib.decNat (c :: l) = Lib.decFrom (c.toNat - 48) l := by
      unfold Lib.decNat
      rw [if_neg (by simp)]
      show (match Lib.digitVal c with | some d => Lib.decFrom (0 * 10 + d) l | none => none) = _
      rw [digitVal_dig hd.1]
      show Lib.decFrom (0 * 10 + (c.toNat - 48)) l = _
      rw [Nat.zero_mul, Nat.zero_add]
    cases l with
    | nil => exact ⟨c.toNat - 48, by rw [e0]; rfl, e1⟩
    | cons d l =>
      have hne : c ≠ 48 := by simpa using hh
      have h1 : 1 ≤ c.toNat - 48 := by
        have : c.toNat ≠ 48 := fun e => hne (UInt8.toNat_inj.1 e)
        omega
      obtain ⟨n, hn, _⟩ := decFrom_digs (d :: l) (c.toNat - 48) hd.2
      exact ⟨n, by rw [e0]; exact hn, by rw [decDigits_from (d :: l) _ n h1 hd.2 hn, e1]; rfl⟩
theorem canon_decDigits (n : Nat) : canonB (Lib.decDigits n) = true := by
  induction n using Nat.strongRecOn with
  | _ n ih =>
    have dig : ∀ k, k < 10 → digB (UInt8.ofNat (48 + k)) = true := fun k hk => by
      unfold digB
      rw [u8n (by omega), decide_eq_true (by omega), decide_eq_true (by omega)]; rfl
    by_cases h : n < 10
    · rw [Lib.decDigits, dif_pos h]
      unfold canonB
      rw [List.all_cons, dig n h]
      rfl
    · rw [Lib.decDigits, dif_neg h]
      have hi := ih (n / 10) (by omega)
      have hn0 : n / 10 ≠ 0 := by omega
      unfold canonB at hi ⊢
      rw [Bool.and_eq_true, Bool.and_eq_true] at hi
      obtain ⟨⟨i1, i2⟩, i3⟩ := hi
      have hne : Lib.decDigits (n / 10) ≠ [] := by intro e; rw [e] at i1; simp at i1
      have hhd : (Lib.decDigits (n / 10) ++ [UInt8.ofNat (48 + n % 10)]).head? = (Lib.decDigits (n / 10)).head? := by
        cases hx : Lib.decDigits (n / 10) with
        | nil => exact absurd hx hne
        | cons a b => rfl
      rw [List.all_append, i2, hhd]
      have hh : (Lib.decDigits (n / 10)).head? ≠ some 48 := by
        by_cases hs : n / 10 < 10
        · rw [Lib.decDigits, dif_pos hs]
          intro e
          have e : some (UInt8.ofNat (48 + n / 10)) = some 48 := e
          injection e with e
          have e2 := congrArg UInt8.toNat e
          rw [u8n (by omega)] at e2
          have : (48 : UInt8).toNat = 48 := rfl
          omega
        · rw [Bool.or_eq_true] at i3
          rcases i3 with i3 | i3
          · rw [decide_eq_true_eq, Lib.decDigits, dif_neg hs, List.length_append] at i3
            have : 1 ≤ (Lib.decDigits (n / 10 / 10)).length := by rw [Lib.decDigits_length]; exact Lib.nDigits_pos _
            rw [List.length_singleton] at i3; omega
          · exact of_decide_eq_true i3
      have hd := dig (n % 10) (Nat.mod_lt _ (by omega))
      rw [List.all_cons, hd, List.all_nil, decide_eq_true hh, Bool.or_true]
      have he : (Lib.decDigits (n / 10) ++ [UInt8.ofNat (48 + n % 10)]).isEmpty = false := by
        cases hx : Lib.decDigits (n / 10) with
        | nil => exact absurd hx hne
        | cons a b => rfl
      rw [he]; rfl
theorem nat_same (s : Bt) : (match Lib.atoi s with | none => ((0 : Int), (3 : Int)) | some n => if n < 0 ∨ Lib.itoa n ≠ s then (0, 3) else if 1099511627776 < n then (0, 2) else (n, 0)) = if canonB s = true then (match Lib.decNat s with | none => ((0 : Int), (3 : Int)) | some n => if 1099511627776 < (n : Int) then (0, 2) else ((n : Int), 0)) else (0, 3) := by
  by_cases h : canonB s = true
  · rw [if_pos h]
    obtain ⟨n, h1, h2⟩ := decDigits_canon h
    have ha : Lib.atoi s = some (n : Int) := by
      cases s with
      | nil => simp [canonB] at h
      | cons c s =>
        have hd : digB c = true := by
          unfold canonB at h
          rw [Bool.and_eq_true, Bool.and_eq_true, List.all_cons, Bool.and_eq_true] at h
          exact h.1.2.1
        have hc : c ≠ 45 ∧ c ≠ 43 := ⟨by rintro rfl; revert hd; decide, by rintro rfl; revert hd; decide⟩
        show (if (c == 45) = true then _ else if (c == 43) = true then _ else (Lib.decNat (c :: s)).map fun (m : Nat) => (m : Int)) = _
        rw [if_neg (by simpa using hc.1), if_neg (by simpa using hc.2), h1]; rfl
    have hi : Lib.itoa (n : Int) = s := by
      unfold Lib.itoa
      rw [if_neg (by omega), Int.toNat_natCast, h2]
    rw [ha, h1]
    simp only
    rw [if_neg (by rintro (e | e); omega; exact e hi)]
  · rw [if_neg h]
    cases ha : Lib.atoi s with
    | none => rfl
    | some n =>
      simp only
      rw [if_pos]
      by_cases hn : n < 0
      · exact .inl hn
      · refine .inr fun e => h ?_
        rw [← e]
        unfold Lib.itoa
        rw [if_neg hn]
        exact canon_decDigits _
end Go.Proofs.YtoalecalahkblaaGreatDoor

set_option linter.all false
namespace Go.Proofs.YtoalecalahkblaaGreatDoor
open Go.RowKit
theorem results_tmp4 {fn : Func} {t u v x : Tmp} (h : fn.results = #[.tmp t, .tmp u, .tmp v, .tmp x]) (tmps : Array Value) (P : Program) (w : World) :
    (results fn tmps).run P w = .ok (.tuple #[tmps.getD t undef, tmps.getD u undef, tmps.getD v undef, tmps.getD x undef]) w := by
  simp [results, h]
theorem printR_any (c : UInt8) (w : World) : Calls Tryz.prog 150 #[.int .u8 (c.toNat : Int)] w fun e w' => e = .returned (.bool (printB c)) ∧ w = w' := by
  obtain ⟨q1, hq1⟩ : ∃ q1, decide ((32 : Int) ≤ (c.toNat : Int)) = q1 := ⟨_, rfl⟩
  obtain ⟨q2, hq2⟩ : ∃ q2, decide ((c.toNat : Int) ≤ 126) = q2 := ⟨_, rfl⟩
  have HE : Hid (printB c = (q1 && q2)) := by
    show _ = _
    unfold printB
    rw [← hq1, ← hq2]
    congr 1
    · exact decide_eq_decide.2 (by rw [UInt8.le_iff_toNat_le]; show 32 ≤ c.toNat ↔ _; omega)
    · exact decide_eq_decide.2 (by rw [UInt8.le_iff_toNat_le]; show c.toNat ≤ 126 ↔ _; omega)
  rw [HE.out]
  generalize (c.toNat : Int) = z at *
  clear HE
  go_enter Tryz.func150, Tryz.ntmps150
  cases q1
  · go_wp2_with fail
    go_ret
    exact ⟨rfl, rfl⟩
  · go_wp2_with fail
    go_ret
    exact ⟨rfl, rfl⟩
def plE (sep : UInt8) (s : Bt) (i : Nat) : Bt × Int × Int × Int := match plainR sep [] (s.drop i) with
  | .ok b rest => (b, ((s.length - rest.length : Nat) : Int), -1, 0)
  | .bad rest e => ([], 0, ((s.length - rest.length : Nat) : Int), e)
def RetQ (p : Bt × Int × Int × Int) (w : World) (e : Ending) (w' : World) : Prop := e = .returned (.tuple #[.string (bsOf p.1), .int .i64 p.2.1, .int .i64 p.2.2.1, .int .i64 p.2.2.2]) ∧ Below w.heap.size w w'
theorem plR_stop {sep c : UInt8} {acc r : Bt} (h : c = 10 ∨ c = sep) : plainR sep acc (c :: r) = .ok acc (c :: r) := by unfold plainR; rw [if_pos h]
theorem plR_bad {sep c : UInt8} {acc r : Bt} (h : ¬ (c = 10 ∨ c = sep)) (h2 : printB c = false ∨ c = 34) : plainR sep acc (c :: r) = .bad (c :: r) 3 := by unfold plainR; rw [if_neg h, if_pos h2]
theorem plR_more {sep c : UInt8} {acc r : Bt} (h : ¬ (c = 10 ∨ c = sep)) (h2 : ¬ (printB c = false ∨ c = 34)) : plainR sep acc (c :: r) = plainR sep (acc ++ [c]) r := by
  conv => lhs; unfold plainR
  rw [if_neg h, if_neg h2]
theorem neI (c d : UInt8) (z : Int) (hz : (d.toNat : Int) = z) : ((c.toNat : Int) != z) = (c != d) := by
  show (!((c.toNat : Int) == z)) = !(c == d)
  rw [beqI c d z hz]
theorem dropLen {s : ByteArray} {k : Nat} (h : k ≤ s.size) : s.data.toList.length - (s.data.toList.drop k).length = k := by
  have : s.data.toList.length = s.size := by simp
  rw [List.length_drop]; omega
theorem takeSnoc {s : ByteArray} {i k : Nat} (hi : i ≤ k) (hk : k < s.size) : (s.data.toList.drop i).take (k - i) ++ [s[k]] = (s.data.toList.drop i).take (k + 1 - i) := by
  have h1 : (s.data.toList.drop i)[k - i]? = some s[k] := by
    rw [List.getElem?_drop, show i + (k - i) = k by omega, List.getElem?_eq_getElem (rdByte hk).1, (rdByte hk).2]
  rw [show k + 1 - i = (k - i) + 1 by omega, List.take_add_one, h1]; rfl
set_option maxHeartbeats 4000000 in
set_option maxRecDepth 100000 in
theorem plain_ref (s : ByteArray) (sep : UInt8) (i : Nat) (w : World) (hs : s.size ≤ 16384) (hi : i ≤ s.size) :
    Calls Tryz.prog 108 #[.string s, .int .i64 (i : Int), .int .u8 (sep.toNat : Int)] w (RetQ (plE sep s.data.toList i) w) := by
  obtain ⟨sz, hsz⟩ : ∃ sz, (sep.toNat : Int) = sz := ⟨_, rfl⟩
  have HSP := Lib.hid (fun c : UInt8 => neI c sep sz hsz)
  have HTE := Lib.hid (fun c : UInt8 => neI c 10 10 rfl)
  have HQU := Lib.hid (fun c : UInt8 => beqI c 34 34 rfl)
  rw [hsz]
  clear hsz
  go_enter Tryz.func108, Tryz.ntmps108
  go_wp2_with fail
  go_loopw [10] (fun iv wr => ∃ k : Nat, iv = .int .i64 (k : Int) ∧ i ≤ k ∧ k ≤ s.size ∧ Hid (plainR sep [] (s.data.toList.drop i) = plainR sep ((s.data.toList.drop i).take (k - i)) (s.data.toList.drop k)) ∧ w = wr) (fun iv _ => s.size - (intOf iv).toNat)
  case atStart => exact ⟨i, rfl, Nat.le_refl _, hi, Lib.hid (by show _ = _; rw [Nat.sub_self, List.take_zero]), rfl⟩
  case round =>
    obtain ⟨k, rfl, hik, hks, HK, rfl⟩ := hrel
    have j1 : (0 : Int) ≤ (i : Int) := by omega
    have j2 : (i : Int) ≤ (k : Int) := by omega
    have j3 : (k : Int) ≤ (s.size : Int) := by omega
    have HEX := Lib.hid (extBs s i k)
    have HDL := Lib.hid (dropLen hks)
    by_cases hlt : k < s.size
    · have i1 : (0 : Int) ≤ (k : Int) := by omega
      have i2 : (k : Int) < (s.size : Int) := by omega
      have HD := Lib.hid (dropAt hlt)
      have HTK := Lib.hid (takeSnoc hik hlt)
      obtain ⟨c, hc⟩ : ∃ c, s[k] = c := ⟨_, rfl⟩
      rw [hc] at HD HTK
      have b1 := HSP.out c
      have b2 := HTE.out c
      have b3 := HQU.out c
      have HC := Lib.hid hc
      by_cases h1 : c = sep
      · have e1 : ((c.toNat : Int) != sz) = false := by rw [b1, h1]; simp
        have HF : Hid (plE sep s.data.toList i = ((s.data.toList.drop i).take (k - i), (k : Int), -1, 0)) := by show _ = _; unfold plE; rw [HK.out, HD.out, plR_stop (.inr h1)]; dsimp only; rw [← HD.out, HDL.out]
        clear b1 b2 b3 h1
        go_wp2_with fail
        refine bodyPost_ret (results_tmp4 rfl _ _ _) rfl ?_
        rw [HF.out]
        exact ⟨congrArg (fun x => Ending.returned (.tuple #[.string x, .int .i64 (k : Int), .int .i64 (-1), .int .i64 0])) HEX.out, Below.refl _ _⟩
      · have e1 : ((c.toNat : Int) != sz) = true := by rw [b1]; simpa using h1
        by_cases h2 : c = 10
        · have e2 : ((c.toNat : Int) != 10) = false := by rw [b2, h2]; rfl
          have HF : Hid (plE sep s.data.toList i = ((s.data.toList.drop i).take (k - i), (k : Int), -1, 0)) := by show _ = _; unfold plE; rw [HK.out, HD.out, plR_stop (.inl h2)]; dsimp only; rw [← HD.out, HDL.out]
          clear b1 b2 b3 h1 h2
          go_wp2_with fail
          refine bodyPost_ret (results_tmp4 rfl _ _ _) rfl ?_
          rw [HF.out]
          exact ⟨congrArg (fun x => Ending.returned (.tuple #[.string x, .int .i64 (k : Int), .int .i64 (-1), .int .i64 0])) HEX.out, Below.refl _ _⟩
        · have e2 : ((c.toNat : Int) != 10) = true := by rw [b2]; simpa using h2
          have HNS : Hid (¬ (c = 10 ∨ c = sep)) := Lib.hid (fun h => h.elim h2 h1)
          have HP := Lib.hid (fun W => printR_any c W)
          obtain ⟨qp, hqp⟩ : ∃ qp, printB c = qp := ⟨_, rfl⟩
          rw [hqp] at HP
          have HQP := Lib.hid hqp
          clear h1 h2 hqp b1 b2
          obtain ⟨cz, hcz⟩ : ∃ cz, (c.toNat : Int) = cz := ⟨_, rfl⟩
          rw [hcz] at HP e1 e2 b3
          go_wp2_with fail
          (with_reducible refine (HP.out _).mono ?_)
          rintro _ w2 ⟨rfl, rfl⟩
          cases qp with
          | false =>
            have HF : Hid (plE sep s.data.toList i = ([], 0, (k : Int), 3)) := by show _ = _; unfold plE; rw [HK.out, HD.out, plR_bad HNS.out (.inl HQP.out)]; dsimp only; rw [← HD.out, HDL.out]
            clear b3
            go_wp2_with fail
            refine bodyPost_ret (results_tmp4 rfl _ _ _) rfl ?_
            rw [HF.out]
            exact ⟨rfl, Below.refl _ _⟩
          | true =>
            by_cases h3 : c = 34
            · have e3 : (cz == 34) = true := by rw [b3, h3]; rfl
              have HF : Hid (plE sep s.data.toList i = ([], 0, (k : Int), 3)) := by show _ = _; unfold plE; rw [HK.out, HD.out, plR_bad HNS.out (.inr h3)]; dsimp only; rw [← HD.out, HDL.out]
              clear b3 h3
              go_wp2_with fail
              refine bodyPost_ret (results_tmp4 rfl _ _ _) rfl ?_
              rw [HF.out]
              exact ⟨rfl, Below.refl _ _⟩
            · have e3 : (cz == 34) = false := by rw [b3]; exact beq_false_of_ne h3
              have HS : Hid (plainR sep [] (s.data.toList.drop i) = plainR sep ((s.data.toList.drop i).take (k + 1 - i)) (s.data.toList.drop (k + 1))) := by
                show _ = _
                rw [HK.out, HD.out, plR_more HNS.out (fun h => h.elim (fun h => by rw [HQP.out] at h; cases h) h3), HTK.out]
              clear b3 h3
              go_wp2_with fail
              go_roundw
              case rel => exact ⟨k + 1, by go_num, by omega, by omega, HS, by first | rfl | trivial⟩
              case measure => simp [intOf]; omega
    · have hk : k = s.size := by omega
      have HF : Hid (plE sep s.data.toList i = ((s.data.toList.drop i).take (k - i), (k : Int), -1, 0)) := by
        show _ = _
        unfold plE
        have hd : s.data.toList.drop k = [] := dropEnd (by omega)
        have hl := HDL.out
        rw [hd] at hl
        rw [HK.out, hd]
        show (_, ((s.data.toList.length - ([] : Bt).length : Nat) : Int), _, _) = _
        rw [hl]
      have n1 : ¬ (k : Int) < (s.size : Int) := by omega
      clear hk
      go_wp2_with fail
      refine bodyPost_ret (results_tmp4 rfl _ _ _) rfl ?_
      rw [HF.out]
      exact ⟨congrArg (fun x => Ending.returned (.tuple #[.string x, .int .i64 (k : Int), .int .i64 (-1), .int .i64 0])) HEX.out, Below.refl _ _⟩
def qR (acc : Bt) : Bt → CellR
  | [] => .bad [] 4
  | c :: r =>
    if printB c = false then .bad (c :: r) 3
    else if c = 34 then
      match r with
      | [] => .ok acc []
      | d :: r' => if d = 34 then qR (acc ++ [34]) r' else .ok acc (d :: r')
    else qR (acc ++ [c]) r
theorem qR_bad {c : UInt8} {acc r : Bt} (h : printB c = false) : qR acc (c :: r) = .bad (c :: r) 3 := by unfold qR; rw [if_pos h]
theorem qR_chr {c : UInt8} {acc r : Bt} (h : printB c = true) (h2 : c ≠ 34) : qR acc (c :: r) = qR (acc ++ [c]) r := by
  conv => lhs; unfold qR
  rw [if_neg (by rw [h]; decide), if_neg h2]
theorem qR_two {acc r : Bt} : qR acc (34 :: 34 :: r) = qR (acc ++ [34]) r := by
  conv => lhs; unfold qR
  rw [if_neg (by decide), if_pos rfl]
  simp only [if_pos]
theorem qR_stop {acc r : Bt} (h : r.head? ≠ some 34) : qR acc (34 :: r) = .ok acc r := by
  unfold qR
  rw [if_neg (by decide), if_pos rfl]
  cases r with
  | nil => rfl
  | cons d r =>
    have : d ≠ 34 := fun e => h (by rw [e]; rfl)
    simp only [if_neg this]
theorem qR_ends {sep : UInt8} : ∀ (n : Nat) (t acc : Bt), t.length ≤ n → quotedR sep acc t = (match qR acc t with | .bad r e => .bad r e | .ok b r => if endsB sep r = true then .ok b r else .bad r 3)
  | _, [], acc, _ => by unfold quotedR qR; rfl
  | 0, c :: t, acc, h => by simp at h
  | n + 1, c :: t, acc, h => by
    have hl : t.length ≤ n := by simpa using h
    by_cases h1 : printB c = false
    · rw [quotedR_bad h1, qR_bad h1]
    have h1 : printB c = true := by simpa using h1
    by_cases h2 : c = 34
    · subst h2
      by_cases h3 : t.head? = some 34
      · cases t with
        | nil => cases h3
        | cons d t =>
          injection h3 with h3
          subst h3
          rw [quotedR_two, qR_two]
          exact qR_ends n t _ (by simp at hl; omega)
      · rw [quotedR_stop h3, qR_stop h3]
    · rw [quotedR_chr h1 h2, qR_chr h1 h2]
      exact qR_ends n t _ hl
def quE (s : Bt) (i : Nat) : Bt × Int × Int × Int := match qR [] (s.drop (i + 1)) with
  | .ok b rest => (b, ((s.length - rest.length : Nat) : Int), -1, 0)
  | .bad rest e => ([], 0, ((s.length - rest.length : Nat) : Int), e)
set_option maxHeartbeats 4000000 in
set_option maxRecDepth 100000 in
theorem quoted_ref (s : ByteArray) (i : Nat) (w : World) (hs : s.size ≤ 16384) (hi : i < s.size) :
    Calls Tryz.prog 107 #[.string s, .int .i64 (i : Int)] w (RetQ (quE s.data.toList i) w) := by
  have HQU := Lib.hid (fun c : UInt8 => beqI c 34 34 rfl)
  go_enter Tryz.func107, Tryz.ntmps107
  go_wp2_with fail
  go_loopw [8, 9] (fun bv iv wr => ∃ (k : Nat) (acc : Bt), iv = .int .i64 (k : Int) ∧ i + 1 ≤ k ∧ k ≤ s.size ∧ Hid (acc.length ≤ k) ∧ Hid (OwnC wr w.heap.size bv acc) ∧ Hid (Below w.heap.size w wr) ∧ Hid (qR [] (s.data.toList.drop (i + 1)) = qR acc (s.data.toList.drop k))) (fun _ iv _ => s.size - (intOf iv).toNat)
  case atStart => exact ⟨i + 1, [], by go_num, Nat.le_refl _, hi, Lib.hid (Nat.zero_le _), Lib.hid OwnW.nil, Lib.hid (Below.refl _ _), Lib.hid rfl⟩
  case round =>
    obtain ⟨k, acc, rfl, hik, hks, HAK, HO, HB, HK⟩ := hrel
    have HDL := Lib.hid (dropLen hks)
    obtain ⟨A, cb, hA⟩ := HO.out.open_
    subst hA
    by_cases hlt : k < s.size
    · have i1 : (0 : Int) ≤ (k : Int) := by omega
      have i2 : (k : Int) < (s.size : Int) := by omega
      have HD := Lib.hid (dropAt hlt)
      obtain ⟨c, hc⟩ : ∃ c, s[k] = c := ⟨_, rfl⟩
      rw [hc] at HD
      have b3 := HQU.out c
      have HP := Lib.hid (fun W => printR_any c W)
      obtain ⟨qp, hqp⟩ : ∃ qp, printB c = qp := ⟨_, rfl⟩
      rw [hqp] at HP
      have HQP := Lib.hid hqp
      clear hqp
      obtain ⟨cz, hcz⟩ : ∃ cz, (c.toNat : Int) = cz := ⟨_, rfl⟩
      rw [hcz] at HP b3
      have HCZ := Lib.hid hcz
      go_wp2_with fail
      (with_reducible refine (HP.out _).mono ?_)
      rintro _ w2 ⟨rfl, rfl⟩
      cases qp with
      | false =>
        have HF : Hid (quE s.data.toList i = ([], 0, (k : Int), 3)) := by show _ = _; unfold quE; rw [HK.out, HD.out, qR_bad HQP.out]; dsimp only; rw [← HD.out, HDL.out]
        clear b3
        go_wp2_with fail
        refine bodyPost_ret (results_tmp4 rfl _ _ _) rfl ?_
        rw [HF.out]
        exact ⟨rfl, HB.out⟩
      | true =>
        by_cases h3 : c = 34
        · have e3 : (cz == 34) = true := by rw [b3, h3]; rfl
          obtain ⟨k1, hk1⟩ : ∃ k1, k + 1 = k1 := ⟨_, rfl⟩
          have hk1' : (k : Int) + 1 = (k1 : Int) := by omega
          have HK1 := Lib.hid hk1
          rw [hk1, h3] at HD
          have HCV := Lib.hid HO.out.conv
          have k0 : (0 : Int) ≤ (k1 : Int) := by omega
          have HLK := Lib.hid (show (s.data.toList.drop k1).length = s.size - k1 by rw [List.length_drop]; simp)
          by_cases hl2 : k1 < s.size
          · have e4 : (k1 : Int) < (s.size : Int) := by omega
            have HD2 := Lib.hid (dropAt hl2)
            have HDL1 := Lib.hid (dropLen (Nat.le_of_lt hl2))
            obtain ⟨d, hd⟩ : ∃ d, s[k1] = d := ⟨_, rfl⟩
            rw [hd] at HD2
            have b4 := HQU.out d
            obtain ⟨dz, hdz⟩ : ∃ dz, (d.toNat : Int) = dz := ⟨_, rfl⟩
            rw [hdz] at b4
            have HDZ := Lib.hid hdz
            have hcv := HCV.out
            by_cases h4 : d = 34
            · have e5 : (dz == 34) = true := by rw [b4, h4]; rfl
              have HS : Hid (qR [] (s.data.toList.drop (i + 1)) = qR (acc ++ [d]) (s.data.toList.drop (k1 + 1))) := by show _ = _; rw [HK.out, HD.out, HD2.out, h4, qR_two]
              have HWS := Lib.hid HB.out.size
              have hal := HAK.out
              clear b3 b4 h3 h4 hk1
              go_wp2_with (at_builtin; refine wpList_pushC rfl (.tmp 44) (.tmp 48) rfl d _ HDZ.out.symm rfl HO.out rfl (by omega) HWS.out ?_; intro v' w7 hA)
              have HA := Lib.hid hA
              clear hA
              go_roundw
              case rel => exact ⟨k1 + 1, acc ++ [d], by go_num, by have := HK1.out; omega, by have := HK1.out; omega, Lib.hid (by rw [List.length_append, List.length_singleton]; have := HK1.out; omega), Lib.hid HA.out.own, Lib.hid (HB.out.grown HA.out.grown HB.out.size (fun g hg => (World.ownsRow.lt HO.out g hg).1)), HS⟩
              case measure => simp [intOf]; have := HK1.out; omega
            · have e5 : (dz == 34) = false := by rw [b4]; exact beq_false_of_ne h4
              have HF : Hid (quE s.data.toList i = (acc, (k1 : Int), -1, 0)) := by
                show _ = _
                unfold quE
                rw [HK.out, HD.out, qR_stop (by rw [HD2.out]; intro e; have e : some d = some 34 := e; injection e with e; exact h4 e)]
                dsimp only
                rw [HDL1.out]
              clear b3 b4 h3 h4 hk1
              go_wp2_with fail
              refine bodyPost_ret (results_tmp4 rfl _ _ _) rfl ?_
              rw [HF.out]
              exact ⟨rfl, HB.out⟩
          · have e4 : ¬ (k1 : Int) < (s.size : Int) := by omega
            have HF : Hid (quE s.data.toList i = (acc, (k1 : Int), -1, 0)) := by
              show _ = _
              unfold quE
              have hd : s.data.toList.drop k1 = [] := dropEnd (by omega)
              rw [HK.out, HD.out, hd, qR_stop (by intro e; cases e)]
              have hz : s.size = k1 := by omega
              show (_, ((s.data.toList.length - ([] : Bt).length : Nat) : Int), _, _) = _
              simp [hz]
            have hcv := HCV.out
            clear b3 h3 hk1
            go_wp2_with fail
            refine bodyPost_ret (results_tmp4 rfl _ _ _) rfl ?_
            rw [HF.out]
            exact ⟨rfl, HB.out⟩
        · have e3 : (cz == 34) = false := by rw [b3]; exact beq_false_of_ne h3
          have HS : Hid (qR [] (s.data.toList.drop (i + 1)) = qR (acc ++ [c]) (s.data.toList.drop (k + 1))) := by show _ = _; rw [HK.out, HD.out, qR_chr HQP.out h3]
          clear b3 h3
          have HWS := Lib.hid HB.out.size
          have hal := HAK.out
          go_wp2_with (at_builtin; refine wpList_pushC rfl (.tmp 44) (.tmp 48) rfl c _ HCZ.out.symm rfl HO.out rfl (by omega) HWS.out ?_; intro v' w7 hA)
          have HA := Lib.hid hA
          clear hA
          go_roundw
          case rel => exact ⟨k + 1, acc ++ [c], by go_num, by omega, by omega, Lib.hid (by rw [List.length_append, List.length_singleton]; omega), Lib.hid HA.out.own, Lib.hid (HB.out.grown HA.out.grown HB.out.size (fun g hg => (World.ownsRow.lt HO.out g hg).1)), HS⟩
          case measure => simp [intOf]; omega
    · have HF : Hid (quE s.data.toList i = ([], 0, (s.size : Int), 4)) := by
        show _ = _
        unfold quE
        have hd : s.data.toList.drop k = [] := dropEnd (by omega)
        rw [HK.out, hd]
        show (_, _, ((s.data.toList.length - ([] : Bt).length : Nat) : Int), _) = _
        simp
      have n1 : ¬ (k : Int) < (s.size : Int) := by omega
      go_wp2_with fail
      refine bodyPost_ret (results_tmp4 rfl _ _ _) rfl ?_
      rw [HF.out]
      exact ⟨rfl, HB.out⟩
end Go.Proofs.YtoalecalahkblaaGreatDoor

set_option linter.all false
namespace Go.Proofs.YtoalecalahkblaaGreatDoor
open Go.RowKit
theorem eqBs (x y : Bt) : ((bsOf x).toList == (bsOf y).toList) = decide (x = y) := by
  rw [Lib.toList_data, Lib.toList_data]
  show (x == y) = decide (x = y)
  rw [Bool.eq_iff_iff]
  simp
theorem life_ref (t : Bt) (w : World) : Calls Tryz.prog 109 #[.string (bsOf t)] w fun e w' => e = .returned (.int .i64 (lifeI t + 1)) ∧ w = w' := by
  have HW := Lib.hid (fun q hq W => word_ref q hq W)
  have HEQ := Lib.hid (fun x => eqBs x t)
  go_enter Tryz.func109, Tryz.ntmps109
  go_wp2_with fail
  go_loopw [3] (fun iv wr => ∃ q : Nat, iv = .int .i64 ((q : Int) + 1) ∧ q ≤ 6 ∧ Hid (∀ p x, p < q → lifeW[p]? = some x → x ≠ t) ∧ w = wr) (fun iv _ => 8 - (intOf iv).toNat)
  case atStart => exact ⟨0, by go_num, by omega, Lib.hid (fun p x h => absurd h (by omega)), rfl⟩
  case round =>
    obtain ⟨q, rfl, hq6, HNO, rfl⟩ := hrel
    by_cases hq : q < 6
    · have HWQ := Lib.hid (fun W => HW.out q hq W)
      have hl : q < lifeW.length := hq
      have hx : lifeW[q]? = some (lifeW.getD q []) := by rw [List.getD_eq_getElem?_getD, List.getElem?_eq_getElem hl]; rfl
      have HX := Lib.hid hx
      have b1 := HEQ.out (lifeW.getD q [])
      obtain ⟨x, hxx⟩ : ∃ x, lifeW.getD q [] = x := ⟨_, rfl⟩
      rw [hxx] at HWQ HX b1
      clear hx hxx hl
      by_cases he : x = t
      · have e1 : ((bsOf x).toList == (bsOf t).toList) = true := by rw [b1]; exact decide_eq_true he
        have HR : Hid (lifeI t = (q : Int)) := by
          show _ = _
          have hm : t ∈ lifeW := by rw [← he]; exact List.mem_of_getElem? HX.out
          unfold lifeI
          rw [if_pos hm]
          have hi := List.idxOf_lt_length_of_mem hm
          have h1 : lifeW[lifeW.idxOf t]? = some t := by rw [List.getElem?_eq_getElem hi]; congr 1; exact List.getElem_idxOf hi
          have hnd : lifeW.Nodup := by decide
          have h2 : lifeW[q]? = some t := by rw [HX.out, he]
          have h3 : lifeW.idxOf t = q := (List.getElem?_inj hi hnd).1 (h1.trans h2.symm)
          rw [h3]
        clear b1 he
        go_wp2_with fail
        (with_reducible refine (HWQ.out _).mono ?_)
        rintro _ w2 ⟨rfl, rfl⟩
        go_wp2_with fail
        go_ret
        rw [HR.out]
        exact ⟨rfl, rfl⟩
      · have e1 : ((bsOf x).toList == (bsOf t).toList) = false := by rw [b1]; exact decide_eq_false he
        have HN : Hid (∀ p y, p < q + 1 → lifeW[p]? = some y → y ≠ t) := Lib.hid fun p y hp hy => by
          by_cases h : p = q
          · rw [h, HX.out] at hy; injection hy with hy; rw [← hy]; exact he
          · exact HNO.out p y (by omega) hy
        clear b1 he
        go_wp2_with fail
        (with_reducible refine (HWQ.out _).mono ?_)
        rintro _ w2 ⟨rfl, rfl⟩
        go_wp2_with fail
        go_roundw
        case rel => exact ⟨q + 1, by go_num, by omega, HN, by first | rfl | trivial⟩
        case measure => simp [intOf]; omega
    · have hq7 : q = 6 := by omega
      have HR : Hid (lifeI t = -1) := by
        show _ = _
        unfold lifeI
        rw [if_neg (fun hm => by
          obtain ⟨p, hp, he⟩ := List.mem_iff_getElem.1 hm
          exact HNO.out p _ (by have : lifeW.length = 6 := rfl; omega) (List.getElem?_eq_getElem hp) he)]
      subst hq7
      go_wp2_with fail
      go_ret
      rw [HR.out]
      exact ⟨rfl, rfl⟩
def instE (s : Bt) : Int × Int :=
  if canonB s = false ∨ 15 < s.length then (0, 3) else match Lib.decNat s with
    | none => (0, 3)
    | some n => if 1099511627776 < (n : Int) then (0, 2) else ((n : Int), 0)
theorem inst_same (s : Bt) : natE s = instE s := by
  unfold natE instE
  by_cases h : 15 < s.length
  · rw [if_pos h, if_pos (.inr h)]
  rw [if_neg h]
  have h1 : okOf (Lib.atoiAll s) = Lib.atoi s := by
    rw [Lib.atoiAll_short s (by omega)]
    cases Lib.atoi s <;> rfl
  rw [h1]
  have h2 := nat_same s
  refine Eq.trans ?_ (h2.trans ?_)
  · cases Lib.atoi s <;> rfl
  by_cases hc : canonB s = true
  · rw [if_pos hc, if_neg (by rw [hc]; simp; omega)]
    all_goals (cases Lib.decNat s <;> rfl)
  · rw [if_neg hc, if_pos (.inl (by simpa using hc))]
theorem decFrom_snoc : ∀ (l : Bt) (a n : Nat) (c : UInt8) (d : Nat), Lib.decFrom a l = some n → Lib.digitVal c = some d → Lib.decFrom a (l ++ [c]) = some (n * 10 + d)
  | [], a, n, c, d, h, hc => by
    injection h with h
    subst h
    rw [List.nil_append]
    unfold Lib.decFrom
    rw [hc]; rfl
  | x :: l, a, n, c, d, h, hc => by
    rw [List.cons_append]
    unfold Lib.decFrom at h ⊢
    cases hx : Lib.digitVal x with
    | none => rw [hx] at h; cases h
    | some y =>
      rw [hx] at h
      exact decFrom_snoc l _ n c d h hc
theorem u8_digit {z : Nat} (h : 48 ≤ z ∧ z ≤ 57) : IntKind.u8.wrap ((z : Int) - 48) = (z : Int) - 48 := by
  have : z = 48 ∨ z = 49 ∨ z = 50 ∨ z = 51 ∨ z = 52 ∨ z = 53 ∨ z = 54 ∨ z = 55 ∨ z = 56 ∨ z = 57 := by omega
  rcases this with rfl | rfl | rfl | rfl | rfl | rfl | rfl | rfl | rfl | rfl <;> decide
theorem take_at {s : ByteArray} {k : Nat} (hk : k < s.size) : s.data.toList.take (k + 1) = s.data.toList.take k ++ [s[k]] := by
  have := takeSnoc (s := s) (i := 0) (k := k) (Nat.zero_le _) hk
  rw [List.drop_zero, Nat.sub_zero, Nat.sub_zero] at this
  exact this.symm
set_option maxHeartbeats 4000000 in
set_option maxRecDepth 100000 in
theorem instant_ref (s : ByteArray) (w : World) (hs : s.size ≤ 1000000) : Calls Tryz.prog 110 #[.string s] w fun e w' => e = .returned (.tuple #[.int .i64 (natE s.data.toList).1, .int .i64 (natE s.data.toList).2]) ∧ w = w' := by
  have HLEN : Hid (s.data.toList.length = s.size) := Lib.hid (by simp)
  have HQ := Lib.hid (fun c : UInt8 => beqI c 48 48 rfl)
  have HBAD : Hid ((canonB s.data.toList = false ∨ 15 < s.size) → natE s.data.toList = (0, 3)) := Lib.hid fun h => by
    rw [inst_same]
    unfold instE
    rw [if_pos (by rw [HLEN.out]; exact h)]
  by_cases h1 : s.size < 1
  · have HF := Lib.hid (HBAD.out (.inl (by
      have : s.data.toList = [] := List.length_eq_zero_iff.1 (by rw [HLEN.out]; omega)
      rw [this]; rfl)))
    have i1 : (s.size : Int) < 1 := by omega
    clear h1
    go_enter Tryz.func110, Tryz.ntmps110
    go_wp2_with fail
    go_ret2
    rw [HF.out]
    exact ⟨rfl, rfl⟩
  have i1 : ¬ (s.size : Int) < 1 := by omega
  by_cases h2 : 15 < s.size
  · have HF := Lib.hid (HBAD.out (.inr h2))
    have i2 : (15 : Int) < (s.size : Int) := by omega
    clear h1 h2
    go_enter Tryz.func110, Tryz.ntmps110
    go_wp2_with fail
    go_ret2
    rw [HF.out]
    exact ⟨rfl, rfl⟩
  have i2 : ¬ (15 : Int) < (s.size : Int) := by omega
  have h0 : 0 < s.size := by omega
  have hd0 : s.data.toList.head? = some s[0] := by have := headDrop h0; rwa [List.drop_zero] at this
  have HCAN : Hid ((1 < s.size → s[0] ≠ 48) → canonB s.data.toList = s.data.toList.all digB) := Lib.hid fun h => by
    unfold canonB
    have e1 : s.data.toList.isEmpty = false := by
      cases hq : s.data.toList with
      | nil => have := HLEN.out; rw [hq] at this; simp at this; omega
      | cons a b => rfl
    rw [e1, HLEN.out, hd0]
    by_cases h9 : s.size = 1
    · simp [h9]
    · have h8 := h (by omega)
      simp [h8]
  by_cases h3 : 1 < s.size ∧ s[0] = 48
  · have HF := Lib.hid (HBAD.out (.inl (by
      unfold canonB
      rw [hd0, h3.2, HLEN.out, decide_eq_false (show ¬ s.size = 1 by omega)]
      simp)))
    have i3 : (1 : Int) < (s.size : Int) := by omega
    have i4 : (0 : Int) < (s.size : Int) := by omega
    have e1 : ((s[0].toNat : Int) == 48) = true := by rw [HQ.out, h3.2]; rfl
    clear h1 h2 hd0 h3
    go_enter Tryz.func110, Tryz.ntmps110
    go_wp2_with fail
    go_ret2
    rw [HF.out]
    exact ⟨rfl, rfl⟩
  have HC2 := Lib.hid (HCAN.out (fun h h9 => h3 ⟨h, h9⟩))
  have HZ : Hid (∃ q : Bool, (decide ((1 : Int) < (s.size : Int)) = true → ((s[0].toNat : Int) == 48) = false)) := Lib.hid ⟨true, fun h => by
    have h := of_decide_eq_true h
    rw [HQ.out]
    exact beq_false_of_ne (fun h9 => h3 ⟨by omega, h9⟩)⟩
  go_enter Tryz.func110, Tryz.ntmps110
  go_upto_region 1 with fail
  go_cut [23] from 6 to 23 (fun x W => x = .bool false ∧ w = W)
  case first =>
    by_cases h9 : s.size = 1
    · have i3 : ¬ (1 : Int) < (s.size : Int) := by omega
      clear HZ HBAD HCAN HC2 hd0 h1 h2 h3 h9
      go_wp2_with fail
      go_meet
      exact ⟨rfl, rfl⟩
    · have i3 : (1 : Int) < (s.size : Int) := by omega
      have i4 : (0 : Int) < (s.size : Int) := by omega
      have e1 : ((s[0].toNat : Int) == 48) = false := by
        obtain ⟨_, h⟩ := HZ.out
        exact h (decide_eq_true i3)
      clear HZ HBAD HCAN HC2 hd0 h1 h2 h3 h9
      go_wp2_with fail
      go_meet
      exact ⟨rfl, rfl⟩
  case rest =>
  obtain ⟨rfl, rfl⟩ := hcut
  clear hd0 h3 HZ HCAN i1
  go_wp2_with fail
  go_loopw [4, 5] (fun nv iv wr => ∃ (k n : Nat), iv = .int .i64 (k : Int) ∧ nv = .int .i64 (n : Int) ∧ k ≤ s.size ∧ Hid (Lib.decFrom 0 (s.data.toList.take k) = some n) ∧ Hid (n < 10 ^ k) ∧ Hid ((s.data.toList.take k).all digB = true) ∧ w = wr) (fun _ iv _ => s.size - (intOf iv).toNat)
  case atStart => exact ⟨0, 0, by go_num, by go_num, Nat.zero_le _, Lib.hid rfl, Lib.hid (by decide), Lib.hid rfl, by first | rfl | trivial⟩
  case round =>
    obtain ⟨k, n, rfl, rfl, hk, HD, HN, HA, rfl⟩ := hrel
    by_cases hlt : k < s.size
    · have i3 : (0 : Int) ≤ (k : Int) := by omega
      have i4 : (k : Int) < (s.size : Int) := by omega
      have HTA := Lib.hid (take_at hlt)
      have HMEM : Hid (s[k] ∈ s.data.toList) := Lib.hid (by rw [← (rdByte hlt).2 (rdByte hlt).1]; exact List.getElem_mem _)
      obtain ⟨c, hc⟩ : ∃ c, s[k] = c := ⟨_, rfl⟩
      rw [hc] at HTA HMEM
      have hcl : c.toNat < 256 := UInt8.toNat_lt c
      obtain ⟨z, hz⟩ : ∃ z, c.toNat = z := ⟨_, rfl⟩
      have hcz : ((s[k]).toNat : Int) = (z : Int) := by rw [hc, hz]
      rw [hz] at hcl
      by_cases hdg : digB c = true
      · have hb : 48 ≤ z ∧ z ≤ 57 := by
          have h5 := hdg
          unfold digB at h5
          rw [Bool.and_eq_true, decide_eq_true_eq, decide_eq_true_eq, hz] at h5
          exact h5
        have HD2 : Hid (Lib.decFrom 0 (s.data.toList.take (k + 1)) = some (n * 10 + (z - 48))) := Lib.hid (by rw [HTA.out]; exact decFrom_snoc _ _ _ _ _ HD.out (by rw [digitVal_dig hdg, hz]))
        have HA2 : Hid ((s.data.toList.take (k + 1)).all digB = true) := Lib.hid (by rw [HTA.out, List.all_append, HA.out, List.all_cons, hdg]; rfl)
        have HN2 : Hid (n * 10 + (z - 48) < 10 ^ (k + 1)) := Lib.hid (by have := HN.out; rw [Nat.pow_succ]; omega)
        have hbig : n < 1000000000000000 := by
          have h6 : 10 ^ k ≤ 10 ^ 15 := Nat.pow_le_pow_right (by decide) (by omega)
          have := HN.out
          have e15 : (10 : Nat) ^ 15 = 1000000000000000 := by decide
          omega
        have l1 : ¬ (z : Int) < 48 := by omega
        have l2 : ¬ (57 : Int) < (z : Int) := by omega
        have hw8 : IntKind.u8.wrap ((z : Int) - 48) = (z : Int) - 48 := u8_digit hb
        clear hz hc hdg HMEM hcl
        go_wp2_with fail
        go_roundw
        case rel => exact ⟨k + 1, n * 10 + (z - 48), by go_num, by go_num, by omega, HD2, HN2, HA2, by first | rfl | trivial⟩
        case measure => simp [intOf]; omega
      · have HF := Lib.hid (HBAD.out (.inl (by
          rw [HC2.out]
          rw [Bool.eq_false_iff]
          intro h
          exact hdg (List.all_eq_true.1 h c HMEM.out))))
        have hb : z < 48 ∨ 57 < z := by
          rcases Nat.lt_or_ge z 48 with h | h
          · exact .inl h
          · rcases Nat.lt_or_ge 57 z with h' | h'
            · exact .inr h'
            · refine absurd ?_ hdg
              unfold digB
              rw [hz, decide_eq_true h, decide_eq_true h']; rfl
        clear hz hc hdg HMEM hcl
        rcases hb with hb | hb
        · have l1 : (z : Int) < 48 := by omega
          go_wp2_with fail
          go_ret2
          rw [HF.out]
          exact ⟨rfl, rfl⟩
        · have l1 : ¬ (z : Int) < 48 := by omega
          have l2 : (57 : Int) < (z : Int) := by omega
          go_wp2_with fail
          go_ret2
          rw [HF.out]
          exact ⟨rfl, rfl⟩
    · have hkn : k = s.size := by omega
      have HTT : Hid (s.data.toList.take k = s.data.toList) := Lib.hid (by rw [List.take_of_length_le (by rw [HLEN.out]; omega)])
      have HF : Hid (natE s.data.toList = if 1099511627776 < (n : Int) then (0, 2) else ((n : Int), 0)) := by
        show _ = _
        have ha := HA.out
        have hd := HD.out
        rw [HTT.out] at ha hd
        rw [inst_same]
        unfold instE
        rw [if_neg (by rw [HC2.out, ha, HLEN.out]; simp; omega)]
        have hdn : Lib.decNat s.data.toList = some n := by
          unfold Lib.decNat
          rw [if_neg (by
            intro h
            have h7 := HLEN.out
            rw [List.isEmpty_iff.1 h] at h7
            simp at h7; omega)]
          exact hd
        rw [hdn]
      have l1 : ¬ (k : Int) < (s.size : Int) := by omega
      clear hkn
      by_cases hbg : 1099511627776 < (n : Int)
      · have HF2 : Hid (natE s.data.toList = (0, 2)) := by show _ = _; rw [HF.out, if_pos hbg]
        go_wp2_with fail
        go_ret2
        rw [HF2.out]
        exact ⟨rfl, rfl⟩
      · have HF2 : Hid (natE s.data.toList = ((n : Int), 0)) := by show _ = _; rw [HF.out, if_neg hbg]
        go_wp2_with fail
        go_ret2
        rw [HF2.out]
        exact ⟨rfl, rfl⟩
end Go.Proofs.YtoalecalahkblaaGreatDoor
