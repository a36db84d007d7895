/- matrix.Mul, for a matrix of small entries and a column of small numbers. -/
import Derived.Test.YtphdafhidhfmnaaDoorIncRef
import Derived.Test.YtphdafhidhfmnaaDoorEqSpec
namespace Go.Proofs.YtphdafhidhfmnaaDoor
open Go.RowKit

def colOf (cs : List Int) : List (List Int) := cs.map fun c => [c]
def mulTo (a : List (List Int)) (cs : List Int) (k : Nat) : List (List Int) := (a.take k).map fun r => [dotTo r cs cs.length]
theorem mulTo_len (a : List (List Int)) (cs : List Int) {k : Nat} (h : k ≤ a.length) : (mulTo a cs k).length = k := by unfold mulTo; simp; omega
theorem mulTo_succ {a : List (List Int)} (cs : List Int) {k : Nat} {r : List Int} (h : a[k]? = some r) : mulTo a cs (k + 1) = mulTo a cs k ++ [[dotTo r cs cs.length]] := by
  have hj : k < a.length := by
    rcases Nat.lt_or_ge k a.length with h' | h'
    · exact h'
    · rw [List.getElem?_eq_none h'] at h; cases h
  rw [List.getElem?_eq_getElem hj] at h
  injection h with h
  unfold mulTo
  rw [List.take_succ_eq_append_getElem hj, List.map_append, h]; rfl
theorem col_get {cs : List Int} {k : Nat} {r : List Int} (h : (colOf cs)[k]? = some r) : r = [cs.getD k 0] := by
  unfold colOf at h
  rw [List.getElem?_map] at h
  rw [List.getD_eq_getElem?_getD]
  cases hk : cs[k]? with
  | none => rw [hk] at h; cases h
  | some z => rw [hk] at h; injection h with h; exact h.symm
theorem col_len (cs : List Int) : (colOf cs).length = cs.length := by unfold colOf; simp
theorem col_mat {cs : List Int} (h1 : 1 ≤ cs.length) (h2 : cs.length ≤ 20) (hf : Few cs) : matB (colOf cs) = true := by
  have h0 : firstLen (colOf cs) = 1 := by
    cases cs with
    | nil => simp at h1
    | cons c cs => rfl
  unfold matB
  rw [h0, col_len]
  simp only [Bool.and_eq_true, decide_eq_true_eq, List.all_eq_true]
  refine ⟨⟨⟨⟨h1, h2⟩, Nat.le_refl _⟩, by omega⟩, fun r hr => ?_⟩
  obtain ⟨k, hk, rfl⟩ := List.mem_iff_getElem.1 hr
  have := col_get (List.getElem?_eq_getElem hk)
  rw [this]
  have hz := hf k
  generalize cs.getD k 0 = z at hz
  unfold rowOk entriesB entryB
  simp
  omega
theorem mul_mat {a : List (List Int)} {cs : List Int} (h1 : 1 ≤ a.length) (h2 : a.length ≤ 20) (h3 : cs.length ≤ 20) (hf : Few cs) (ha : ∀ r ∈ a, Unit1 r) : matB (mulTo a cs a.length) = true := by
  have hl := mulTo_len a cs (Nat.le_refl a.length)
  have h0 : firstLen (mulTo a cs a.length) = 1 := by
    cases a with
    | nil => simp at h1
    | cons c a => rfl
  unfold matB
  rw [h0, hl]
  simp only [Bool.and_eq_true, decide_eq_true_eq, List.all_eq_true]
  refine ⟨⟨⟨⟨h1, h2⟩, Nat.le_refl _⟩, by omega⟩, fun r hr => ?_⟩
  unfold mulTo at hr
  rw [List.take_of_length_le (Nat.le_refl _)] at hr
  obtain ⟨s, hs, rfl⟩ := List.mem_map.1 hr
  have := dot_b (ha s hs) hf cs.length
  unfold rowOk entriesB entryB
  simp
  omega

theorem get_some' {l : List Int} {k : Nat} {z : Int} (h : l[k]? = some z) : l.getD k 0 = z := by rw [List.getD_eq_getElem?_getD, h]; rfl
structure MSt (w0 wr : World) (B0 B gr : Nat) (v : Value) (m : List (List Int)) (z : Int) : Prop where
  rows : OwnR 1 RRow (fun b => b = gr) wr B 25 v m
  row : OwnF (Value.int .i64) wr gr 3 gr 1 [z]
  below : Below B0 w0 wr
theorem MSt.set_ {w0 wr : World} {B0 B gr : Nat} {v : Value} {m : List (List Int)} {z : Int} (h : MSt w0 wr B0 B gr v m z) (z' : Int) (h2 : v.ownBlock ≠ some gr) (hB : B0 ≤ gr) : MSt w0 (wr.setCell ⟨gr, 0, none⟩ (.int .i64 z')) B0 B gr v m z' :=
  ⟨h.rows.far RRow.kept (p := ⟨gr, 0, none⟩) rfl h2 _, h.row.set_ 0 z', h.below.setCell hB _⟩

set_option maxHeartbeats 2000000 in
set_option maxRecDepth 100000 in
theorem mul_any (a : List (List Int)) (cs : List Int) (u v : Value) (w : World) (hu : SlII (Lt w.heap.size) w u a) (hv : SlII (Lt w.heap.size) w v (colOf cs))
    (hma : matB a = true) (hfl : firstLen a = cs.length) (hra : ∀ r ∈ a, r.length = cs.length) (ha : ∀ r ∈ a, Unit1 r) (hf : Few cs) :
    Calls Tryd.prog 33 #[u, v] w (RetIIE (mulTo a cs a.length) 0 w) := by
  have hm := hma
  unfold matB at hm
  simp only [Bool.and_eq_true, decide_eq_true_eq] at hm
  obtain ⟨⟨⟨⟨n1, n2⟩, n3⟩, n4⟩, _⟩ := hm
  rw [hfl] at n3 n4
  have HMB := Lib.hid (col_mat n3 n4 hf)
  have HMM := Lib.hid (mul_mat n1 n2 n4 hf ha)
  have HMA := Lib.hid hma
  have HFL := Lib.hid hfl
  have HRA := Lib.hid hra
  have HA := Lib.hid ha
  have HF := Lib.hid hf
  clear hma hfl hra ha hf
  obtain ⟨Au, cu, rfl, u1, u2, hu⟩ := hu.open_
  have hv0 := hv
  obtain ⟨Av, cv, rfl, x1, x2, hv⟩ := hv.open_
  rw [col_len] at x1 hv hv0 ⊢
  go_enter Tryd.func33, Tryd.ntmps33
  go_wp2_with fail
  refine (mvalid_any _ a _ hu).mono ?_
  rintro e w1 ⟨rfl, hb1⟩
  rw [HMA.out]
  go_wp2_with fail
  refine (mvalid_any _ (colOf cs) _ (hv.now hb1)).mono ?_
  rintro e w2 ⟨rfl, hb2⟩
  rw [HMB.out]
  have hb3 := bthen hb1 hb2
  have hu2 := hu.below hb3 (Nat.le_refl _)
  have hv2 := hv.below hb3 (Nat.le_refl _)
  clear hb1 hb2
  obtain ⟨b0, o0, A0, c0, rfl, hD0, hcell0, k1, k2⟩ := first_at hu2 (by omega)
  rw [HFL.out] at hcell0 k1
  have t0 : ((cs.length : Int) != (cs.length : Int)) = false := by simp
  go_wp2_with fail
  clear hcell0
  obtain ⟨bv, ov, Av0, cv0, rfl, hDv, hcellv, kv1, kv2⟩ := first_at hv2 (by omega)
  have hfc : firstLen (colOf cs) = 1 := by
    cases cs with
    | nil => simp at n3
    | cons c cs => rfl
  rw [hfc] at hcellv kv1
  have HCV := Lib.hid hcellv
  clear hfc hcellv
  go_loopw [6, 33] (fun o i wr => ∃ k : Nat, k ≤ a.length ∧ i = .int .i64 k ∧ OwnR 1 RRow (fun _ => False) wr w2.heap.size 25 o (mulTo a cs k) ∧ Below w2.heap.size w2 wr) (fun _ i _ => a.length - (intOf i).toNat)
  case atStart => exact ⟨0, Nat.zero_le _, rfl, OwnR.nil, Below.refl _ _⟩
  case round =>
    obtain ⟨k, hk, rfl, hor, hbr⟩ := hrel
    have hsz2 := hb3.size
    have hszr := hbr.size
    have hol := hor.lt
    by_cases hlt : k < a.length
    · have hbw : Below w.heap.size w2 wr := hbr.mono hsz2
      obtain ⟨br, or_, r, rv, e1, hDr, hxr, hsr, cr⟩ := (hu2.below hbw (Nat.le_refl _)).at_ hlt
      injection e1 with e1; injection e1 with e1 e2 _; subst e1 e2
      have hrm : r ∈ a := List.mem_of_getElem? hxr
      have HXR := Lib.hid hxr
      have HUR := Lib.hid (HA.out r hrm)
      obtain ⟨Ar, car, rfl, r1, r2, hsr⟩ := hsr.open_
      rw [HRA.out r hrm] at cr r1 hsr
      have HRL := Lib.hid (HRA.out r hrm)
      have cv' := (hbw.cell (p := ⟨bv, ov, none⟩) hDv).trans HCV.out
      clear hxr hrm
      have hmk : ∀ W : World, (Instr.makeSlice 25 (.int .i64 1) (.int .i64 1)).run Tryd.prog W = .ok (.slice (some ⟨W.heap.size, 0, none⟩) 1 1) (W.alloc (.cells (madeCells #[.int .i64 0] 1) 3)) :=
        fun W => run_make_n (P := Tryd.prog) 25 3 (.int .i64 0) 8 Tryd.underlying25 intInfo 1 (by omega) (by omega) rfl W
      go_upto_region 11 with fail
      have hst : MSt w2 (wr.alloc (.cells (madeCells #[.int .i64 0] 1) 3)) w2.heap.size w2.heap.size wr.heap.size u6 (mulTo a cs k) (dotTo r cs 0) :=
        ⟨(hor.xs RRow.kept (fun b hb e => by omega)).now RRow.kept (bone _ _), OwnF.made (f := Value.int .i64) wr 3 1 0 (by unfold maxLen; omega), bbox hbr _⟩
      have hne : u6.ownBlock ≠ some wr.heap.size := fun e => by have := hol _ e; omega
      have HSR := Lib.hid (show ∀ W, Below w.heap.size w2 W → SlI (Lt w.heap.size) W (.slice Ar cs.length car) r from fun W hW => by
        obtain ⟨_, _, r', rv', e1, _, hxr', hsr', cr'⟩ := (hu2.below hW (Nat.le_refl _)).at_ hlt
        injection e1 with e1; injection e1 with e1 e2 _; subst e1 e2
        have hrr : r' = r := by have := HXR.out; rw [hxr'] at this; injection this
        subst hrr
        have c1 := (hW.cell (p := ⟨_, _, none⟩) hDr).symm.trans cr'
        have c2 := (hbw.cell (p := ⟨_, _, none⟩) hDr).symm.trans cr
        rw [c2] at c1
        injection c1 with c1
        rw [c1]; exact hsr')
      clear hmk cr cv' hor hsr hol hbr hbw
      generalize hwi : wr.alloc (.cells (madeCells #[.int .i64 0] 1) 3) = wi at *
      clear hwi
      generalize hgrd : wr.heap.size = gr at *
      clear hgrd
      go_loopw [44] (fun i wr => ∃ j : Nat, j ≤ cs.length ∧ i = .int .i64 j ∧ MSt w2 wr w2.heap.size w2.heap.size gr u6 (mulTo a cs k) (dotTo r cs j)) (fun i _ => cs.length - (intOf i).toNat)
      case atStart => exact ⟨0, Nat.zero_le _, rfl, hst⟩
      case round =>
        clear hst
        obtain ⟨j, hj, rfl, hst⟩ := hrel
        have hbj : Below w.heap.size w2 wr := hst.below.mono hsz2
        by_cases hjl : j < cs.length
        · obtain ⟨b1, o1, x, e1, hD1, hx1, hf1, d1⟩ := (HSR.out _ hbj).at_ hjl
          subst e1
          have HX1 := Lib.hid hx1
          clear hx1
          obtain ⟨b2, o2, s2, sv, e2, hD2, hx2, hs2, d2⟩ := (hv2.below hbj (Nat.le_refl _)).at_ hjl
          injection e2 with e2; injection e2 with e2 e3 _; subst e2 e3
          have hsc := col_get hx2
          subst hsc
          obtain ⟨As, cs', rfl, s3, s4, hs2⟩ := hs2.open_
          have hlen1 : [cs.getD j 0].length = 1 := rfl
          rw [hlen1] at d2 s3 hs2
          clear hx2 hlen1
          have HFj := Lib.hid (HF.out j)
          have HSC := Lib.hid (show ∀ W, Below w.heap.size wr W → SlI (Lt w.heap.size) W (.slice As 1 cs') [cs.getD j 0] from fun W hW => hs2.below hW (Nat.le_refl _))
          have HDT : Hid (dotTo r cs (j + 1) = dotTo r cs j + x * cs.getD j 0) := by
            show dotTo r cs j + r.getD j 0 * cs.getD j 0 = _
            rw [get_some' HX1.out]
          have hbx := HUR.out j
          rw [get_some' HX1.out] at hbx
          have hdb := dot_b HUR.out HF.out j
          have hpr := mul_b hbx.1 hbx.2 HFj.out.1 HFj.out.2
          generalize hy : cs.getD j 0 = y at *
          generalize hd : dotTo r cs j = d at *
          clear hy hd
          have hj20 : (j : Int) ≤ 20 := by omega
          go_wp2_with fail
          clear d1 d2
          have hbr0 := hst.below
          go_loopw [54] (fun i wx => ∃ q : Nat, q ≤ 1 ∧ i = .int .i64 q ∧ MSt w2 wx w2.heap.size w2.heap.size gr u6 (mulTo a cs k) (if q = 0 then d else d + x * y) ∧ Below w.heap.size wr wx) (fun i _ => 1 - (intOf i).toNat)
          case atStart => exact ⟨0, Nat.zero_le _, rfl, hst, Below.refl _ _⟩
          case round =>
            obtain ⟨q, hq, rfl, hsx, hbq⟩ := hrel
            by_cases hq0 : q < 1
            · obtain rfl : q = 0 := by omega
              obtain ⟨b3, o3, y', e3, hD3, hx3, hf3, d3⟩ := (HSC.out _ hbq).at_ (k := 0) (by omega)
              injection hx3 with hx3
              subst hx3
              subst e3
              rw [Nat.add_zero] at d3
              rw [if_pos rfl] at hsx
              have g3 := hsx.row.cell (k := 0) (x := d) rfl
              have g4 := hsx.row.frozen 0
              simp only [Int.natCast_zero] at *
              go_wp2_with fail
              go_roundw
              case rel => exact ⟨1, Nat.le_refl _, rfl, hsx.set_ (d + x * y) hne (by omega), hbq.setCell (by show w.heap.size ≤ gr; omega) _⟩
              case measure => simp [intOf]
            · obtain rfl : q = 1 := by omega
              rw [if_neg (by omega)] at hsx
              simp only [Int.natCast_one] at *
              go_wp2_with fail
              go_roundw
              case rel => exact ⟨j + 1, by omega, by go_num, by rw [HDT.out]; exact hsx⟩
              case measure => simp [intOf]; omega
        · obtain rfl : j = cs.length := by omega
          have hgl := hst.row.lt
          have hown : OwnR 1 RRow (fun _ => False) wr w2.heap.size 25 u6 (mulTo a cs k) := hst.rows.xs RRow.kept (fun _ _ h => h.elim)
          have hdb := dot_b HUR.out HF.out cs.length
          have HRow : Hid (RRow (Off (fun _ => False) wr u6) wr [dotTo r cs cs.length] [.slice (some ⟨gr, 0, none⟩) 1 1]) :=
            ⟨_, rfl, Sl.of_own1 (R := RInt) (D := Off (fun _ => False) wr u6) (xs := [dotTo r cs cs.length]) hst.row.1 rfl (fun g hg => by
              injection hg with hg; subst hg; exact ⟨hst.row.lt, hne, fun h => h⟩) (fun q x hq => ⟨.int .i64 x, by rw [List.getElem?_map, hq]; rfl, rfl, by
                have : x = dotTo r cs cs.length := by simpa using List.mem_of_getElem? hq
                rw [this]; unfold Fit; omega⟩)⟩
          have hkl : (mulTo a cs k).length < 10000000 := by rw [mulTo_len a cs hk]; omega
          have hle2 : w2.heap.size ≤ wr.heap.size := by omega
          clear hdb
          go_wp2_with (at_builtin; refine wpList_pushR appRows RRow.kept rfl (.tmp 70) (.tmp 72) rfl wr [.slice (some ⟨gr, 0, none⟩) 1 1] rfl (by simp [Value.oneCell']) u6 (mulTo a cs k) [dotTo r cs cs.length] rfl hown HRow.out rfl hkl hle2 ?_; intro v' w' hown' hgr hat)
          have hbg : Below w2.heap.size wr w' := below_of_grown hgr (by omega) (fun g hg => (hown.lt g hg).1)
          go_roundw
          case rel =>
            refine ⟨k + 1, by omega, by go_num, ?_, hst.below.trans hbg⟩
            rw [mulTo_succ cs HXR.out]
            exact hown'
          case measure => simp [intOf]; omega
    · have hkl : k = a.length := by omega
      rw [hkl] at hor
      clear hk hkl
      obtain ⟨Ao, co, hoe⟩ := hor.open_
      subst hoe
      have hsl := hor.sl RRow.kept
      rw [mulTo_len a cs (Nat.le_refl _)] at hsl ⊢
      go_wp2_with fail
      refine (mvalid_any _ (mulTo a cs a.length) _ hsl).mono ?_
      rintro e w3 ⟨rfl, hb4⟩
      rw [HMM.out]
      have hsl3 := SlII.now hsl hb4
      go_wp2_with fail
      go_ret2
      exact ⟨_, rfl, hsl3, bthen hb3 (bthen hbr hb4)⟩
end Go.Proofs.YtphdafhidhfmnaaDoor
