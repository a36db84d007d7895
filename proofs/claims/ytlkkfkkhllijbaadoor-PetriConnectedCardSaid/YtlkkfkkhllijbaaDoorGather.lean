/- graph.gathered: the ends of the edges of each vertex. -/
import Derived.Test.YtlkkfkkhllijbaaDoorGvalid
import Derived.Test.YtlkkfkkhllijbaaDoorTail
namespace Go.Proofs.YtlkkfkkhllijbaaDoor
open Go.RowKit

theorem Grp.mid {w w' : World} {base G cap T E : Nat} {vs : List Value} {rows : List (List Int)} (h : Grp w base G cap T E vs rows) {i : Nat} {v : Value} (hv : vs[i]? = some v) (hg : w.grownBy w' v.ownBlock) : OwnF idV w' base T G cap vs := by
  refine ⟨h.out.1.kept hg ?_, Nat.lt_of_lt_of_le h.out.2.1 hg.size, h.out.2.2⟩
  cases e : v.ownBlock with
  | none => exact .inr (fun e2 => by cases e2)
  | some g =>
    refine .inr ?_
    intro e2
    have : (Value.slice (some ⟨G, 0, none⟩) vs.length cap).ownBlock = some G := rfl
    rw [this] at e2
    injection e2 with e2
    exact h.off i v hv (by rw [e, e2])
theorem slsInfo : (Tryd.prog.info? 28).map (fun i => (i.zero, i.size, i.bytes)) = some (some (Value.slice none 0 0), 1, 24) := by kernel_rfl
theorem appInts' : AppInfo Tryd.prog 28 3 1 := AppInfo.mk' (z := .int .i64 0) (bytes := 8) Tryd.underlying28 (by kernel_rfl) (by omega) rfl (by omega)

set_option maxHeartbeats 4000000 in
set_option maxRecDepth 100000 in
theorem gathered_any (N : Nat) (es : List (Nat × Nat)) (A : Option Addr) (c : Nat) (w : World) (hes : SlE (Lt w.heap.size) w (.slice A es.length c) es) (hN : N ≤ 1000) (hl : es.length ≤ 20000) (hin : ∀ e ∈ es, e.1 < N ∧ e.2 < N) :
    Calls Tryd.prog 29 #[.agg #[.int .i64 (N : Int), .slice A es.length c], .bool false] w fun e w' => ∃ G : Nat, e = .returned (.slice (some ⟨G, 0, none⟩) N N) ∧ SlII (fun b => w.heap.size ≤ b ∧ b < w'.heap.size) w' (.slice (some ⟨G, 0, none⟩) N N) (rowsN es N) ∧ Below w.heap.size w w' := by
  have HIN := Lib.hid hin
  clear hin
  have hb := bone w (.cells #[.int .i64 (N : Int), .slice A es.length c] 35)
  have hB := Blk.new w 35 #[.int .i64 (N : Int), .slice A es.length c]
  go_enter Tryd.func29, Tryd.ntmps29
  go_upto_region 1 with fail
  generalize hw1 : w.alloc (.cells #[.int .i64 (N : Int), .slice A es.length c] 35) = w1 at *
  clear hw1
  have hmk := run_make_n (P := Tryd.prog) 37 28 (.slice none 0 0) 24 Tryd.underlying37 slsInfo N (by omega) (by omega) rfl
  have hG1 := Grp.made w1 28 3 N (by unfold maxLen; omega)
  have hsz1 := hb.size
  have hb2 := bbox hb (.cells (madeCells #[.slice none 0 0] N) 28)
  have hB2 := hB.alloc (.cells (madeCells #[.slice none 0 0] N) 28)
  obtain ⟨q0, q1⟩ := hB.c2
  go_upto_region 2 with fail
  generalize hw2 : w1.alloc (.cells (madeCells #[.slice none 0 0] N) 28) = w2 at *
  clear hw2 hmk hB q0 q1
  rw [← rowsN_nil] at hG1
  obtain ⟨G, hGe⟩ : ∃ G, w1.heap.size = G := ⟨_, rfl⟩
  rw [hGe] at hG1 hsz1 ⊢
  clear hGe hb
  generalize hvs : List.replicate N (Value.slice none 0 0) = vs0 at *
  clear hvs
  obtain ⟨q0, q1⟩ := hB2.c2
  go_wp2_with fail
  clear q0 q1 hB2
  go_loopw [14] (fun i wr => ∃ (k : Nat) (vs : List Value), k ≤ es.length ∧ i = .int .i64 k ∧ Below w.heap.size w wr ∧ Grp wr G G N 28 3 vs (rowsN (es.take k) N)) (fun i _ => es.length - (intOf i).toNat)
  case atStart => exact ⟨0, vs0, Nat.zero_le _, rfl, hb2, hG1⟩
  case round =>
    obtain ⟨k, vs, hk, rfl, hbr, hGr⟩ := hrel
    by_cases hlt : k < es.length
    rotate_left
    · obtain rfl : k = es.length := by omega
      rw [List.take_of_length_le (Nat.le_refl _)] at hGr
      have hsl := hGr.slIIF (B := w.heap.size) (hB := by omega) (fun r hr z hz => by
        unfold rowsN at hr
        obtain ⟨v, _, rfl⟩ := List.mem_map.1 hr
        obtain ⟨x, rfl, hx⟩ := rowN_lt (fun e he => (HIN.out e he).2) z hz
        unfold Fit; omega)
      rw [rowsN_len] at hsl
      go_wp2_with fail
      go_ret
      exact ⟨_, rfl, hsl, hbr⟩
    obtain ⟨b, o, e, rfl, hD, hx, c0, c1⟩ := (hes.now hbr).at_ hlt
    obtain ⟨i1, i2⟩ := HIN.out e (List.mem_of_getElem? hx)
    have HX := Lib.hid hx
    have a3 : (0 : Int) ≤ (k : Int) := by omega
    have a4 : (k : Int) < (es.length : Int) := by omega
    have hbo := bbox hbr (.cells #[.int .i64 (e.1 : Int), .int .i64 (e.2 : Int)] 36)
    have hE := Blk.new wr 36 #[.int .i64 (e.1 : Int), .int .i64 (e.2 : Int)]
    have hGo := hGr.now (bone wr (.cells #[.int .i64 (e.1 : Int), .int .i64 (e.2 : Int)] 36))
    have HRL : Hid (∀ g v, vs[e.1]? = some v → v.ownBlock = some g → g < wr.heap.size) := fun g v hv hg => ((hGr.row e.1 v _ hv (rowsN_get i1)).lt g hg).2
    go_upto_region 5 with fail
    generalize hwo : wr.alloc (.cells #[.int .i64 (e.1 : Int), .int .i64 (e.2 : Int)] 36) = wo at *
    clear hwo hx c0 c1 hGr hbr
    obtain ⟨Ar, cr, r, hr, hv, hown⟩ := (hGo.now (Below.refl wo.heap.size wo).drew).at_ (i := e.1) (by rw [rowsN_len]; exact i1)
    have hGd := hGo.now (Below.refl wo.heap.size wo).drew
    have hbd := bthen hbo (Below.refl wo.heap.size wo).drew
    have hEd := hE.drew
    have hr2 := hr
    rw [rowsN_get i1] at hr2
    injection hr2 with hr2
    have hrl : r.length ≤ 20000 := by
      rw [← hr2]
      have h1 := rowN_len (es.take k) e.1
      rw [List.length_take] at h1
      omega
    have e0 : wo.cell? ⟨wr.heap.size, 0, none⟩ = some (.int .i64 (e.1 : Int)) := hE.c2.1
    have e1 : wo.cell? ⟨wr.heap.size, 1, none⟩ = some (.int .i64 (e.2 : Int)) := hE.c2.2
    have e2 : wo.cell? ⟨G, e.1, none⟩ = some (.slice Ar r.length cr) := hGo.cell hv
    have i3 : (0 : Int) ≤ (e.1 : Int) := by omega
    have i4 : (e.1 : Int) < (N : Int) := by omega
    have hbase : G ≤ wo.drew.heap.size := Nat.le_of_lt hGd.out.lt
    have hrt : (r ++ [(e.2 : Int)]) = rowN (es.take k) e.1 ++ [(e.2 : Int)] := by rw [hr2]
    have HRT := Lib.hid hrt
    clear hr2 hrt
    refine wp_region_held_tail 12 (fun W => W.cell? ⟨wr.heap.size, 0, none⟩ = some (.int .i64 (e.1 : Int)) ∧ W.cell? ⟨wr.heap.size, 1, none⟩ = some (.int .i64 (e.2 : Int)) ∧ W.cell? ⟨G, e.1, none⟩ = some (.slice Ar r.length cr)) (by kernel_rfl) (by kernel_rfl) ⟨e0, e1, e2⟩ (fun hHeld => ?_)
    simp only [List.take_succ_cons, List.take_zero]
    refine takeL (v := ?v0) 0 rfl (by kernel_rfl) (by kernel_rfl) (by kernel_rfl) (fun _ _ _ h => h) rfl ?hy0 hHeld ?rest0
    case hy0 => (intro W hW; obtain ⟨k0, k1, k2⟩ := hW; go_simp <;> rfl)
    simp only [Act.put, List.setIfInBounds_toArray, List.set_cons_zero, List.set_cons_succ]
    refine takeL (v := ?v1) 1 rfl (by kernel_rfl) (by kernel_rfl) (by kernel_rfl) (fun _ _ _ h => h) rfl ?hy1 hHeld ?rest1
    case hy1 => (intro W hW; obtain ⟨k0, k1, k2⟩ := hW; go_simp <;> rfl)
    simp only [Act.put, List.setIfInBounds_toArray, List.set_cons_zero, List.set_cons_succ]
    refine takeL (v := ?v2) 2 rfl (by kernel_rfl) (by kernel_rfl) (by kernel_rfl) (fun _ _ _ h => h) rfl ?hy2 hHeld ?rest2
    case hy2 => (intro W hW; obtain ⟨k0, k1, k2⟩ := hW; go_simp <;> rfl)
    simp only [Act.put, List.setIfInBounds_toArray, List.set_cons_zero, List.set_cons_succ]
    refine takeL (v := ?v3) 3 rfl (by kernel_rfl) (by kernel_rfl) (by kernel_rfl) (fun _ _ _ h => h) rfl ?hy3 hHeld ?rest3
    case hy3 => (intro W hW; obtain ⟨k0, k1, k2⟩ := hW; go_simp <;> rfl)
    simp only [Act.put, List.setIfInBounds_toArray, List.set_cons_zero, List.set_cons_succ]
    refine takeL (v := ?v4) 4 rfl (by kernel_rfl) (by kernel_rfl) (by kernel_rfl) (fun _ _ _ h => h) rfl ?hy4 hHeld ?rest4
    case hy4 => (intro W hW; obtain ⟨k0, k1, k2⟩ := hW; go_simp <;> rfl)
    simp only [Act.put, List.setIfInBounds_toArray, List.set_cons_zero, List.set_cons_succ]
    refine takeL (v := ?v5) 5 rfl (by kernel_rfl) (by kernel_rfl) (by kernel_rfl) (fun _ _ _ h => h) rfl ?hy5 hHeld ?rest5
    case hy5 => (intro W hW; obtain ⟨k0, k1, k2⟩ := hW; go_simp <;> rfl)
    simp only [Act.put, List.setIfInBounds_toArray, List.set_cons_zero, List.set_cons_succ]
    refine takeL (v := ?v6) 6 rfl (by kernel_rfl) (by kernel_rfl) (by kernel_rfl) (fun _ _ _ h => h) rfl ?hy6 hHeld ?rest6
    case hy6 => (intro W hW; obtain ⟨k0, k1, k2⟩ := hW; go_simp <;> rfl)
    simp only [Act.put, List.setIfInBounds_toArray, List.set_cons_zero, List.set_cons_succ]
    refine takeL (v := ?v7) 7 rfl (by kernel_rfl) (by kernel_rfl) (by kernel_rfl) (fun _ _ _ h => h) rfl ?hy7 hHeld ?rest7
    case hy7 => (intro W hW; obtain ⟨k0, k1, k2⟩ := hW; go_simp <;> rfl)
    simp only [Act.put, List.setIfInBounds_toArray, List.set_cons_zero, List.set_cons_succ]
    refine takeL (v := ?v8) 8 rfl (by kernel_rfl) (by kernel_rfl) (by kernel_rfl) (fun _ _ _ h => h) rfl ?hy8 hHeld ?rest8
    case hy8 => (intro W hW; obtain ⟨k0, k1, k2⟩ := hW; go_simp <;> rfl)
    simp only [Act.put, List.setIfInBounds_toArray, List.set_cons_zero, List.set_cons_succ]
    refine takeL (v := ?v9) 9 rfl (by kernel_rfl) (by kernel_rfl) (by kernel_rfl) (fun _ _ _ h => h) rfl ?hy9 hHeld ?rest9
    case hy9 => (intro W hW; obtain ⟨k0, k1, k2⟩ := hW; go_simp <;> rfl)
    simp only [Act.put, List.setIfInBounds_toArray, List.set_cons_zero, List.set_cons_succ]
    refine onlyL 10 rfl rfl (by kernel_rfl) (fun K hK => ?_)
    go_simp
    refine hK.out _ _ ⟨(World.cell?_alloc_old wo _ _ (Nat.ne_of_lt hE.lt)).trans e0, (World.cell?_alloc_old wo _ _ (Nat.ne_of_lt hE.lt)).trans e1, (World.cell?_alloc_old wo _ _ (Nat.ne_of_lt hGo.out.lt)).trans e2⟩ (fun hHeld => ?_)
    clear hK K
    refine onlyL 11 rfl rfl (by kernel_rfl) (fun K hK => ?_)
    refine wp_push appInts' (.tmp 25) (.tmp 28) rfl wo.drew [.int .i64 (e.2 : Int)] rfl (by simp [Value.oneCell']) (.slice Ar r.length cr) r.length (r.map (Value.int .i64)) rfl hown rfl (by omega) hbase ?_
    intro v' w' hown' hgr hat
    obtain ⟨g', cap', rfl, _, _⟩ := World.ownsRow.form hown' (by omega)
    have hmid := hGd.mid hv hgr
    have hne : ∀ g, g = wr.heap.size → some g ≠ (Value.slice Ar r.length cr).ownBlock := fun g hg e => by
      have := HRL.out g _ hv e.symm
      omega
    have hEw := hEd.grown hgr (hne _ rfl)
    refine hK.out _ _ ⟨hEw.c2.1, hEw.c2.2, hmid.cell hv⟩ (fun hHeld => ?_)
    clear hK K
    refine doneL (by kernel_rfl) ?_
    simp only [List.drop_succ_cons, List.drop_zero]
    have m1 : w'.cell? ⟨G, e.1, none⟩ = some (.slice Ar r.length cr) := hmid.cell hv
    have m2 := hmid.frozen e.1
    have hG' := hGd.push hv hr (by simpa using hown') hgr hat
    have hb' := hGd.below (v' := .slice (some ⟨g', 0, none⟩) (r.length + 1) cap') (B := w.heap.size) hv hgr (by omega) hbd.size
    have hbl := hbd.trans hb'
    rw [HRT.out, ← rowsN_take HX.out i1] at hG'
    clear hHeld hown hown' hgr hat hmid hEw hGd hGo
    go_wp2_with fail
    go_roundw
    case rel => exact ⟨k + 1, _, by omega, by go_num, hbl, hG'⟩
    case measure => simp [intOf]; omega
end Go.Proofs.YtlkkfkkhllijbaaDoor
