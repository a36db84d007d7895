/- petri.Incidence. -/
import Derived.Test.YtphdafhidhfmnaaDoorInitial
import Derived.Test.YtphdafhidhfmnaaDoorMat
namespace Go.Proofs.YtphdafhidhfmnaaDoor
open Go.RowKit

def RetIIE (m : List (List Int)) (c : Int) (w : World) (e : Ending) (w' : World) : Prop := ∃ v, e = .returned (.tuple #[v, .int .i64 c]) ∧ SlII (Lt w'.heap.size) w' v m ∧ Below w.heap.size w w'

/-- A row of the incidence matrix after j transitions. -/
def partRow (n : Net) (p j : Nat) : List Int := (n.trans.take j).map (incAt p) ++ List.replicate (n.trans.length - j) 0
theorem part_zero (n : Net) (p : Nat) : partRow n p 0 = List.replicate n.trans.length 0 := by unfold partRow; simp
theorem part_full (n : Net) (p : Nat) : partRow n p n.trans.length = incRow n p := by unfold partRow incRow; simp
theorem part_len (n : Net) (p j : Nat) (hj : j ≤ n.trans.length) : (partRow n p j).length = n.trans.length := by unfold partRow; simp; omega
theorem take_map_len (n : Net) (p j : Nat) (hj : j ≤ n.trans.length) : ((n.trans.take j).map (incAt p)).length = j := by simp; omega
theorem part_get (n : Net) (p j : Nat) (hj : j < n.trans.length) : (partRow n p j)[j]? = some 0 := by
  unfold partRow
  have hl := take_map_len n p j (by omega)
  rw [List.getElem?_append_right (by omega), hl, Nat.sub_self]
  obtain ⟨r, hr⟩ : ∃ r, n.trans.length - j = r + 1 := ⟨n.trans.length - j - 1, by omega⟩
  rw [hr]; rfl
theorem part_step (n : Net) (p j : Nat) {t : Tr} (ht : n.trans[j]? = some t) : (partRow n p j).set j (incAt p t) = partRow n p (j + 1) := by
  have hj : j < n.trans.length := by
    rcases Nat.lt_or_ge j n.trans.length with h | h
    · exact h
    · rw [List.getElem?_eq_none h] at ht; cases ht
  unfold partRow
  have hl := take_map_len n p j (by omega)
  obtain ⟨r, hr⟩ : ∃ r, n.trans.length - j = r + 1 := ⟨n.trans.length - j - 1, by omega⟩
  have e2 : n.trans.length - (j + 1) = r := by omega
  rw [hr, e2, List.replicate_succ, List.set_append, hl, if_neg (by omega), Nat.sub_self]
  rw [List.getElem?_eq_getElem hj] at ht
  injection ht with ht
  rw [List.take_succ_eq_append_getElem hj, List.map_append, List.append_assoc, ht]; rfl
theorem set_same {l : List Int} {j : Nat} {z : Int} (h : l[j]? = some z) : l.set j z = l := by
  have hj : j < l.length := by
    rcases Nat.lt_or_ge j l.length with h' | h'
    · exact h'
    · rw [List.getElem?_eq_none h'] at h; cases h
  rw [List.getElem?_eq_getElem hj] at h
  injection h with h
  rw [← h]; exact List.set_getElem_self hj
theorem part_mem (n : Net) (p j : Nat) : ∀ z ∈ partRow n p j, -1 ≤ z ∧ z ≤ 1 := by
  intro z hz
  unfold partRow at hz
  rcases List.mem_append.1 hz with h | h
  · obtain ⟨t, _, rfl⟩ := List.mem_map.1 h
    exact incAt_b p t
  · rw [List.mem_replicate] at h; rw [h.2]; omega

/-- The rows that are done. -/
def RowsDone (n : Net) (w : World) (lo hi : Nat) (vs : List Value) (k : Nat) : Prop := ∀ i, i < k → ∃ v, vs[i]? = some v ∧ SlI (fun b => lo < b ∧ b < hi) w v (incRow n i)
theorem RowsDone.keep {n : Net} {w w' : World} {lo hi hi' k : Nat} {vs : List Value} (h : RowsDone n w lo hi vs k) (hh : hi ≤ hi') (hs : Same (fun b => lo < b ∧ b < hi) w w') : RowsDone n w' lo hi' vs k := fun i hi => by
  obtain ⟨v, h1, h2⟩ := h i hi
  exact ⟨v, h1, Sl.keep h2 RInt.kept (fun b hb => ⟨hb.1, by omega⟩) hs⟩

structure ISt (n : Net) (w0 wr : World) (B0 bx g gr P k : Nat) (vs : List Value) (nv : Array Value) (row : List Int) : Prop where
  rows : OwnF id wr g 25 g P vs
  row : OwnF (Value.int .i64) wr gr 3 gr row.length row
  done : RowsDone n wr g gr vs k
  net : Blk wr bx 24 nv
  below : Below B0 w0 wr
section
variable {n : Net} {w0 wr wr' : World} {B0 bx g gr P k : Nat} {vs : List Value} {nv : Array Value} {row : List Int}
theorem ISt.now (h : ISt n w0 wr B0 bx g gr P k vs nv row) (hb : Below wr.heap.size wr wr') (hB : B0 ≤ wr.heap.size) : ISt n w0 wr' B0 bx g gr P k vs nv row :=
  ⟨h.rows.now hb, h.row.now hb, h.done.keep (Nat.le_refl _) (fun b hb' => hb.block b (Nat.lt_trans hb'.2 h.row.lt)), h.net.now hb, below_step h.below hb hB⟩
theorem ISt.set_ (h : ISt n w0 wr B0 bx g gr P k vs nv row) (j : Nat) (z : Int) (h1 : bx < g) (h2 : g < gr) (hB : B0 ≤ gr) : ISt n w0 (wr.setCell ⟨gr, j, none⟩ (.int .i64 z)) B0 bx g gr P k vs nv (row.set j z) :=
  ⟨h.rows.far (by show gr ≠ g; omega) _, by rw [List.length_set]; exact h.row.set_ j z, h.done.keep (Nat.le_refl _) (fun b hb' => Below.heap_setCell _ _ _ b (by show b ≠ gr; omega)), h.net.far (by show bx ≠ gr; omega) _, h.below.setCell hB _⟩
end
theorem rowInfo : (Tryd.prog.info? 25).map (fun i => (i.zero, i.size, i.bytes)) = some (some (.slice none 0 0), 1, 24) := by kernel_rfl

set_option maxHeartbeats 2000000 in
theorem inc_any (n : Net) (v : Value) (w : World) (h : IsNet (Lt w.heap.size) w v n) :
    Calls Tryd.prog 29 #[v] w (RetIIE (incE n).1 (incE n).2 w) := by
  have h0 := h
  obtain ⟨tv, rfl, hp, hs, hkk, ht⟩ := h
  obtain ⟨A, c, rfl, h1, h2, ht⟩ := ht.open_
  go_enter Tryd.func29, Tryd.ntmps29
  go_wp2_with fail
  have hb := bone w (Obj.cells #[Value.int IntKind.i64 n.places, Value.slice A n.trans.length c, Value.int IntKind.i64 n.source, Value.int IntKind.i64 n.sink] 24)
  refine (valid_any n _ _ (h0.now hb)).mono ?_
  rintro e w1 ⟨rfl, hb1⟩
  have hbw := bthen hb hb1
  have hB1 := (Blk.new w 24 #[.int .i64 n.places, .slice A n.trans.length c, .int .i64 n.source, .int .i64 n.sink]).now hb1
  have hbx := hB1.lt
  clear hb hb1
  generalize hq : validB n = q
  have HV := Lib.hid hq
  clear hq
  cases q
  · have HE := Lib.hid (incE_inv HV.out)
    go_wp2_with fail
    go_ret2
    rw [HE.out]
    exact ⟨_, rfl, Sl.none_, hbw⟩
  obtain ⟨v1, v2, v3, v4⟩ := validOk HV.out
  clear v4
  obtain ⟨q0, q1, q2, q3⟩ := hB1.c4
  by_cases hc0 : n.trans.length = 0
  · have HE := Lib.hid (incE_full HV.out (.inl hc0))
    rw [hc0] at q1
    have t1 : ((0 : Int) == 0) = true := rfl
    go_wp2_with fail
    go_ret2
    rw [HE.out]
    exact ⟨_, rfl, Sl.none_, hbw⟩
  have hz0 : (((n.trans.length : Nat) : Int) == 0) = false := by simp; exact fun e => hc0 (by rw [e]; rfl)
  by_cases hc1 : 20 < n.trans.length
  · have HE := Lib.hid (incE_full HV.out (.inr (.inl hc1)))
    clear hc0
    go_wp2_with fail
    go_ret2
    rw [HE.out]
    exact ⟨_, rfl, Sl.none_, hbw⟩
  by_cases hc2 : 20 < n.places
  · have HE := Lib.hid (incE_full HV.out (.inr (.inr hc2)))
    clear hc0
    go_wp2_with fail
    go_ret2
    rw [HE.out]
    exact ⟨_, rfl, Sl.none_, hbw⟩
  have HE := Lib.hid (incE_ok HV.out (by rintro (h | h | h); exact hc0 h; exact hc1 h; exact hc2 h))
  obtain ⟨P, hP⟩ := Int.eq_ofNat_of_zero_le (show 0 ≤ n.places by omega)
  have HPn : Hid (n.places.toNat = P) := by show n.places.toNat = P; omega
  rw [hP] at q0 hB1
  have hP1 : 1 ≤ P := by omega
  have hP20 : P ≤ 20 := by omega
  clear hP hp hc0 hc2 v1 v2 v3
  have hmk := run_make_n (P := Tryd.prog) 54 25 (.slice none 0 0) 24 Tryd.underlying54 rowInfo P (by omega) (by omega) rfl
  have hown := OwnF.made (f := id) w1 25 P (Value.slice none 0 0) (by unfold maxLen; omega)
  have hB2 := hB1.alloc (.cells (madeCells #[.slice none 0 0] P) 25)
  have hbw2 := bbox hbw (.cells (madeCells #[.slice none 0 0] P) 25)
  go_wp2_with fail
  clear q0 q1 q2 q3 hB1 hmk
  go_loopw [33] (fun i wr => ∃ (k : Nat) (vs : List Value), k ≤ P ∧ i = .int .i64 k ∧ vs.length = P ∧ OwnF id wr w1.heap.size 25 w1.heap.size P vs ∧ RowsDone n wr w1.heap.size wr.heap.size vs k ∧ Blk wr w.heap.size 24 #[.int .i64 P, .slice A n.trans.length c, .int .i64 n.source, .int .i64 n.sink] ∧ Below w.heap.size w wr) (fun i _ => P - (intOf i).toNat)
  case atStart => exact ⟨0, _, Nat.zero_le _, rfl, by simp, hown, fun i h => absurd h (by omega), hB2, hbw2⟩
  case round =>
    obtain ⟨k, vs, hk, rfl, hvl, hor, hdn, hBr, hbr⟩ := hrel
    have HVL := Lib.hid hvl
    clear hvl
    have hgl := hor.lt
    by_cases hlt : k < P
    · have i1 : (k : Int) < (P : Int) := by omega
      obtain ⟨q0, q1, q2, q3⟩ := hBr.c4
      have hmk := run_make_n (P := Tryd.prog) 25 3 (.int .i64 0) 8 Tryd.underlying25 intInfo n.trans.length (by omega) (by omega) rfl
      have hor1 := hor.now (bone wr (.cells (madeCells #[.int .i64 0] n.trans.length) 3))
      have hfz := hor1.frozen k
      have hin : ∃ u, vs[k]? = some u := ⟨vs[k]'(by rw [HVL.out]; exact hlt), List.getElem?_eq_getElem _⟩
      obtain ⟨u0, hu0⟩ := hin
      have hcl := hor1.cell hu0
      clear hu0
      go_upto_region 10 with fail
      have hsz : (wr.setCell ⟨w1.heap.size, k, none⟩ (.slice (some ⟨wr.heap.size, 0, none⟩) n.trans.length n.trans.length)).heap.size = wr.heap.size := by simp
      have hst : ISt n w ((wr.setCell ⟨w1.heap.size, k, none⟩ (.slice (some ⟨wr.heap.size, 0, none⟩) n.trans.length n.trans.length)).alloc (.cells (madeCells #[.int .i64 0] n.trans.length) 3)) w.heap.size w.heap.size w1.heap.size wr.heap.size P k (vs.set k (.slice (some ⟨wr.heap.size, 0, none⟩) n.trans.length n.trans.length)) #[.int .i64 P, .slice A n.trans.length c, .int .i64 n.source, .int .i64 n.sink] (partRow n k 0) := by
        refine ⟨(hor.set_ k _).now (bone _ _), ?_, ?_, ?_, ?_⟩
        · rw [part_zero]
          have := OwnF.made (f := Value.int .i64) (wr.setCell ⟨w1.heap.size, k, none⟩ (.slice (some ⟨wr.heap.size, 0, none⟩) n.trans.length n.trans.length)) 3 n.trans.length 0 (by unfold maxLen; omega)
          rw [hsz] at this
          simpa using this
        · intro i hi
          obtain ⟨v, e1, e2⟩ := hdn i hi
          refine ⟨v, by rw [List.getElem?_set_ne (by omega)]; exact e1, Sl.keep e2 RInt.kept (fun _ h => h) (fun b hb => ?_)⟩
          rw [Below.heap_alloc _ _ _ (by rw [hsz]; exact hb.2)]
          exact Below.heap_setCell _ _ _ b (by show b ≠ w1.heap.size; omega)
        · exact (hBr.far (by show w.heap.size ≠ w1.heap.size; omega) _).alloc _
        · exact bbox (hbr.setCell (by show w.heap.size ≤ w1.heap.size; omega) _) _
      have hrk : (vs.set k (Value.slice (some ⟨wr.heap.size, 0, none⟩) n.trans.length n.trans.length))[k]? = some (.slice (some ⟨wr.heap.size, 0, none⟩) n.trans.length n.trans.length) := by
        rw [List.getElem?_set_self (by rw [HVL.out]; exact hlt)]
      have HRK := Lib.hid hrk
      have HLN : Hid ((vs.set k (Value.slice (some ⟨wr.heap.size, 0, none⟩) n.trans.length n.trans.length)).length = P) := by show List.length _ = P; rw [List.length_set]; exact HVL.out
      have hggr : w1.heap.size < wr.heap.size := hgl
      clear hrk hcl hfz hsz hor1 hmk q0 q1 q2 q3 hor hdn hBr hbr HVL
      generalize hvs' : vs.set k (Value.slice (some ⟨wr.heap.size, 0, none⟩) n.trans.length n.trans.length) = vs' at *
      clear hvs'
      generalize hwi : (wr.setCell ⟨w1.heap.size, k, none⟩ (.slice (some ⟨wr.heap.size, 0, none⟩) n.trans.length n.trans.length)).alloc (.cells (madeCells #[.int .i64 0] n.trans.length) 3) = wi at *
      clear hwi
      obtain ⟨q0, q1, q2, q3⟩ := hst.net.c4
      generalize hgrd : wr.heap.size = gr at *
      clear hgrd
      go_wp2_with fail
      clear q0 q1 q2 q3
      go_loopw [46] (fun i wr => ∃ j : Nat, j ≤ n.trans.length ∧ i = .int .i64 j ∧ ISt n w wr w.heap.size w.heap.size w1.heap.size gr P k vs' #[.int .i64 P, .slice A n.trans.length c, .int .i64 n.source, .int .i64 n.sink] (partRow n k j)) (fun i _ => n.trans.length - (intOf i).toNat)
      case atStart => exact ⟨0, Nat.zero_le _, rfl, hst⟩
      case round =>
        clear hst
        obtain ⟨j, hj, rfl, hst⟩ := hrel
        have hBs := hst.below.size
        by_cases hjl : j < n.trans.length
        · obtain ⟨b, o, t, iv, ov, rfl, hD, hx, hlb, hti, hto, d0, d1, d2⟩ := (ht.below hst.below (Nat.le_refl _)).at_ hjl
          have HX := Lib.hid hx
          obtain ⟨Ai, ci, rfl, i1', i2', hti⟩ := hti.open_
          obtain ⟨Ao, co, rfl, o1', o2', hto⟩ := hto.open_
          clear hx hD
          obtain ⟨q0, q1, q2, q3⟩ := hst.net.c4
          go_upto_region 13 with fail
          have hbA := bone wr (.cells #[.string t.label, .slice Ai t.ins.length ci, .slice Ao t.outs.length co] 64)
          have hTA := Blk.new wr 64 #[.string t.label, .slice Ai t.ins.length ci, .slice Ao t.outs.length co]
          have hstA := hst.now hbA hBs
          have hBsA : w.heap.size ≤ (wr.alloc (.cells #[.string t.label, .slice Ai t.ins.length ci, .slice Ao t.outs.length co] 64)).heap.size := by simp; omega
          have htiA := hti.below (hbA.mono hBs) (Nat.le_refl _)
          have htoA := hto.below (hbA.mono hBs) (Nat.le_refl _)
          have hgrl := hst.row.lt
          have hne : gr ≠ wr.heap.size := by omega
          clear q0 q1 q2 q3 d0 d1 d2 hst hti hto hbA
          generalize hwa : wr.alloc (.cells #[.string t.label, .slice Ai t.ins.length ci, .slice Ao t.outs.length co] 64) = wa at *
          clear hwa
          generalize hbt : wr.heap.size = bt at *
          clear hbt
          obtain ⟨e0, e1, e2⟩ := hTA.c3
          have HP0 := Lib.hid (part_get n k j hjl)
          have HLp := Lib.hid (part_len n k j hj)
          have HST := Lib.hid (part_step n k j HX.out)
          generalize hrow : partRow n k j = row at *
          clear hrow
          have g1 := hstA.rows.cell HRK.out
          have g3 := hstA.row.cell HP0.out
          have g4 := hstA.row.frozen j
          go_wp2_with fail
          refine (containsI _ t.outs k _ (htoA.below (Below.refl _ _) hBsA)).mono ?_
          rintro e w' ⟨rfl, hw'⟩
          rw [hw']
          clear hw' w'
          have HQ1 : Hid (incAt (k : Int) t = (if t.outs.contains (k : Int) then 1 else 0) - (if t.ins.contains (k : Int) then 1 else 0)) := rfl
          generalize t.outs.contains (k : Int) = qo at *
          cases qo
          · go_wp2_with fail
            refine (containsI _ t.ins k _ (htiA.below (Below.refl _ _) hBsA)).mono ?_
            rintro e w' ⟨rfl, rfl⟩
            generalize t.ins.contains (k : Int) = qi at *
            cases qi
            · go_wp2_with fail
              go_roundw
              case rel =>
                refine ⟨j + 1, by omega, by go_num, ?_⟩
                rw [← HST.out, HQ1.out]
                have : row.set j 0 = row := set_same HP0.out
                simpa [this] using hstA
              case measure => simp [intOf]; omega
            · go_wp2_with fail
              go_roundw
              case rel =>
                refine ⟨j + 1, by omega, by go_num, ?_⟩
                rw [← HST.out, HQ1.out]
                exact hstA.set_ j (-1) hbx hggr (by omega)
              case measure => simp [intOf]; omega
          · go_upto_region 15 with fail
            have hst1 := hstA.set_ j 1 hbx hggr (by omega)
            have hT1 := hTA.far (p := ⟨gr, j, none⟩) (by show bt ≠ gr; exact fun e => hne e.symm) (.int .i64 1)
            have hgB : w.heap.size ≤ gr := by omega
            have hti1 := htiA.below (((Below.refl w.heap.size wa).setCell (p := ⟨gr, j, none⟩) hgB (.int .i64 1))) (Nat.le_refl _)
            have hBs1 : w.heap.size ≤ (wa.setCell ⟨gr, j, none⟩ (.int .i64 1)).heap.size := by simpa using hBsA
            clear g1 g3 g4 e0 e1 e2 hstA hTA htiA htoA
            have HP1 : Hid ((row.set j 1)[j]? = some 1) := by show (row.set j 1)[j]? = some 1; rw [List.getElem?_set_self (by rw [HLp.out]; exact hjl)]
            generalize hw1' : wa.setCell ⟨gr, j, none⟩ (.int .i64 1) = wb at *
            clear hw1'
            obtain ⟨e0, e1, e2⟩ := hT1.c3
            have g1 := hst1.rows.cell HRK.out
            have g3 := hst1.row.cell HP1.out
            have g4 := hst1.row.frozen j
            go_wp2_with fail
            refine (containsI _ t.ins k _ (hti1.below (Below.refl _ _) hBs1)).mono ?_
            rintro e w' ⟨rfl, rfl⟩
            generalize t.ins.contains (k : Int) = qi at *
            cases qi
            · go_wp2_with fail
              go_roundw
              case rel =>
                refine ⟨j + 1, by omega, by go_num, ?_⟩
                rw [← HST.out, HQ1.out]
                exact hst1
              case measure => simp [intOf]; omega
            · go_wp2_with fail
              go_roundw
              case rel =>
                refine ⟨j + 1, by omega, by go_num, ?_⟩
                rw [← HST.out, HQ1.out]
                have := hst1.set_ j 0 hbx hggr (by omega)
                rw [List.set_set] at this
                exact this
              case measure => simp [intOf]; omega
        · obtain rfl : j = n.trans.length := by omega
          rw [part_full] at hst
          go_wp2_with fail
          go_roundw
          case rel =>
            refine ⟨k + 1, vs', by omega, by go_num, HLN.out, hst.rows, ?_, hst.net, hst.below⟩
            intro i hi
            by_cases e : i = k
            · subst e
              refine ⟨_, HRK.out, ?_⟩
              have hr := hst.row
              rw [incRow_len] at hr
              have := Sl.of_own1 (R := RInt) (D := fun b => w1.heap.size < b ∧ b < _root_.Array.size (_root_.Go.World.heap _)) (xs := incRow n i) hr.1 rfl (fun g hg => by
                injection hg with hg; subst hg; exact ⟨hggr, hr.lt⟩) (fun q x hq => ⟨.int .i64 x, by simp [hq], rfl, by have := incRow_fit n i x (List.mem_of_getElem? hq); unfold Fit; omega⟩)
              rw [incRow_len] at this
              exact this
            · obtain ⟨v, e1, e2⟩ := hst.done i (by omega)
              exact ⟨v, e1, Sl.keep e2 RInt.kept (fun b hb => ⟨hb.1, Nat.lt_trans hb.2 hst.row.lt⟩) (Same.refl _ _)⟩
          case measure => simp [intOf]; omega
    · have hkP : k = P := by omega
      rw [hkP] at hdn
      clear hkP hk
      go_wp2_with fail
      go_ret2
      rw [HE.out]
      refine ⟨_, rfl, ?_, hbr⟩
      have := Sl.of_own1 (R := RRow) (D := Lt wr.heap.size) (xs := incB n) hor.1 (by unfold incB; rw [incTo_len, HPn.out, HVL.out]) (own_lt hor.1) (fun i r hr => by
        unfold incB at hr
        rw [HPn.out] at hr
        have hi : i < P := by
          rcases Nat.lt_or_ge i P with h' | h'
          · exact h'
          · rw [List.getElem?_eq_none (by rw [incTo_len]; exact h')] at hr; cases hr
        rw [incTo_get n hi] at hr
        injection hr with hr
        subst hr
        obtain ⟨v, e1, e2⟩ := hdn i hi
        exact ⟨v, by simpa using e1, v, rfl, Sl.keep e2 RInt.kept (fun b hb => hb.2) (Same.refl _ _)⟩)
      rw [HVL.out] at this
      exact this
end Go.Proofs.YtphdafhidhfmnaaDoor
