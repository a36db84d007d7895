/- graph.Strong. -/
import Derived.Test.YtlkkfkkhllijbaaDoorClasses
import Derived.Test.YtlkkfkkhllijbaaDoorStrongQ
import Derived.Test.YtlkkfkkhllijbaaDoorGvalid
namespace Go.Proofs.YtlkkfkkhllijbaaDoor
open Go.RowKit

theorem boolInfo' : (Tryd.prog.info? 4).map (fun i => (i.zero, i.size, i.bytes)) = some (some (.bool false), 1, 1) := by kernel_rfl
theorem appRows' : AppInfo Tryd.prog 37 28 1 := AppInfo.mk' (z := .slice none 0 0) (bytes := 24) Tryd.underlying37 (by kernel_rfl) (by omega) rfl (by omega)
/-- The class of a vertex. -/
def clN (es : List (Nat × Nat)) (N v : Nat) : Nat := ((visitTo (nextE es) N N).cl v).toNat
theorem cls_eq {es : List (Nat × Nat)} {N : Nat} (hD : TDone (nextE es) N (visitTo (nextE es) N N)) : (visitTo (nextE es) N N).cls = (List.range N).map fun v => (clN es N v : Int) := by
  apply List.ext_getElem?
  intro i
  by_cases hi : i < N
  · have h1 := hD.all i hi
    have hl : i < (visitTo (nextE es) N N).cls.length := by rw [hD.inv.lc]; exact hi
    have h2 : (visitTo (nextE es) N N).cl i = (visitTo (nextE es) N N).cls[i] := by unfold TS.cl; rw [List.getD_eq_getElem?_getD, List.getElem?_eq_getElem hl]; rfl
    rw [List.getElem?_eq_getElem hl, List.getElem?_map, List.getElem?_range hi]
    simp only [Option.map_some, Option.some.injEq]
    unfold clN
    omega
  · rw [List.getElem?_eq_none (by rw [hD.inv.lc]; omega), List.getElem?_eq_none (by simp; omega)]
/-- What the walk needs of the classes. -/
structure ClsOk (es : List (Nat × Nat)) (N n : Nat) : Prop where
  lt : ∀ v, v < N → clN es N v < n
  ex : ∀ c, c < n → ∃ v, v < N ∧ clN es N v = c
  mono : ∀ e ∈ es, clN es N e.2 ≤ clN es N e.1 ∧ clN es N e.1 < n
  le : n ≤ N
theorem clsOk {es : List (Nat × Nat)} {N : Nat} (hin : ∀ e ∈ es, e.1 < N ∧ e.2 < N) : ClsOk es N (visitTo (nextE es) N N).cc := by
  have hN : ∀ x, x < N → ∀ y ∈ nextE es x, y < N := fun x hx y hy => (hin _ (nextE_mem.1 hy)).2
  have hD := visit_done hN
  have hc := visitTo_cnt hN N (Nat.le_refl _)
  have h1 : ∀ v, v < N → clN es N v < (visitTo (nextE es) N N).cc := fun v hv => by
    have a := hD.all v hv
    have b := hD.inv.cb v hv
    unfold clN; omega
  refine ⟨h1, fun c hc => ?_, fun e he => ⟨?_, h1 _ (hin e he).1⟩, by have := hc.ct; have := hc.cc; omega⟩
  · obtain ⟨x, hx, e⟩ := hD.inv.ce c hc
    exact ⟨x, hx, by unfold clN; omega⟩
  · obtain ⟨a, b⟩ := hin e he
    have h2 := hD.mono hN a (Rch.one (nextE_mem.2 (show (e.1, e.2) ∈ es from he)))
    have h3 := hD.all _ a
    have h4 := hD.all _ b
    unfold clN; omega

theorem cls_cell {D : Nat → Prop} {w : World} {cl : Nat → Nat} {gc N v : Nat} (h : SlI D w (.slice (some ⟨gc, 0, none⟩) N N) ((List.range N).map fun v => (cl v : Int))) (hv : v < N) : w.cell? ⟨gc, v, none⟩ = some (.int .i64 (cl v : Int)) := by
  obtain ⟨b, o, z, hA, _, hx, _, hc⟩ := SlI.at_ h hv
  injection hA with hA
  injection hA with e1 e2 _
  subst e1 e2
  rw [Nat.zero_add] at hc
  rw [List.getElem?_map, List.getElem?_range hv] at hx
  injection hx with hx
  rw [hc, ← hx]
theorem split_mid {a d f r : List Nat} (h : a = d ++ (f ++ r)) (j : Nat) : a = (d ++ f.take j) ++ (f.drop j ++ r) := by
  rw [h, List.append_assoc, ← List.append_assoc (f.take j), List.take_append_drop]
theorem rows_atD {D : Nat → Prop} {w : World} {G N : Nat} {rows : List (List Int)} {r : List Int} {v : Nat} (h : SlII D w (.slice (some ⟨G, 0, none⟩) N N) rows) (hv : v < N) (hr : rows[v]? = some r) :
    ∃ A c, w.cell? ⟨G, v, none⟩ = some (.slice A r.length c) ∧ SlI D w (.slice A r.length c) r := by
  obtain ⟨b, o, x, u, hA, hD, hx, hR, hc⟩ := Sl.at1 h hv
  injection hA with hA
  injection hA with e1 e2 _
  subst e1 e2
  obtain ⟨v', hv', hs⟩ := hR
  injection hv' with hv' _
  subst hv'
  obtain rfl : r = x := Option.some.inj (hr.symm.trans hx)
  obtain ⟨A, c, rfl, _, _, hs⟩ := hs.open_
  refine ⟨A, c, ?_, hs⟩
  rw [← hc, Nat.zero_add]

set_option maxHeartbeats 8000000 in
set_option maxRecDepth 100000 in
theorem strong_any (N : Nat) (es : List (Nat × Nat)) (A : Option Addr) (c : Nat) (w : World) (hes : SlE (Lt w.heap.size) w (.slice A es.length c) es) (hN : N ≤ 1000) (hl : es.length ≤ 20000) (hin : ∀ e ∈ es, e.1 < N ∧ e.2 < N) :
    Calls Tryd.prog 11 #[.agg #[.int .i64 (N : Int), .slice A es.length c]] w fun e w' => ∃ A' c', e = .returned (.tuple #[.slice A' (visitTo (nextE es) N N).cc c', .int .i64 0]) ∧ Below w.heap.size w w' := by
  have HOK := Lib.hid (clsOk hin)
  have hNN : (visitTo (nextE es) N N).cc ≤ 1000 := by have := HOK.out.le; omega
  have HD := Lib.hid (cls_eq (visit_done (fun x hx y hy => (hin _ (nextE_mem.1 hy)).2)))
  have HIN := Lib.hid hin
  clear hin
  have hb := bone w (.cells #[.int .i64 (N : Int), .slice A es.length c] 35)
  have hB := Blk.new w 35 #[.int .i64 (N : Int), .slice A es.length c]
  have hes1 := hes.now hb
  go_enter Tryd.func11, Tryd.ntmps11
  go_upto_region 1 with fail
  generalize hw1 : w.alloc (.cells #[.int .i64 (N : Int), .slice A es.length c] 35) = w1 at *
  clear hw1 hes
  obtain ⟨q0, q1⟩ := hB.c2
  go_wp2_with fail
  refine (gvalid_any N es A c _ hes1 hN hl HIN.out).mono ?_
  rintro e w2 ⟨rfl, hb2⟩
  have hes2 := hes1.now hb2
  have hB2 := hB.now hb2
  have hbw2 := bthen hb hb2
  clear q0 q1 hB hes1 hb hb2
  obtain ⟨q0, q1⟩ := hB2.c2
  go_wp2_with fail
  refine (classes_any N es A c _ hes2 hN hl HIN.out).mono ?_
  rintro e w3 ⟨gc, rfl, hcs, hb3⟩
  rw [HD.out] at hcs
  have hes3 := hes2.now hb3
  have hB3 := hB2.now hb3
  have hbw3 := bthen hbw2 hb3
  clear q0 q1 hB2 hes2 hbw2 hb3
  generalize hcl : clN es N = cl at *
  generalize hn : (visitTo (nextE es) N N).cc = n at *
  have HM1 := Lib.hid (run_make_n (P := Tryd.prog) 37 28 (.slice none 0 0) 24 Tryd.underlying37 slsInfo n (by omega) (by omega) rfl w3)
  have hm1 := HM1.out
  go_upto_region 5 with fail
  have hG0 := Grp.made w3 28 3 n (by unfold maxLen; omega)
  rw [← rowsM_zero (cl := cl)] at hG0
  have hb4 := bone w3 (.cells (madeCells #[.slice none 0 0] n) 28)
  generalize hw4 : w3.alloc (.cells (madeCells #[.slice none 0 0] n) 28) = w4 at *
  have hcs3 := hcs
  clear hw4 hm1 HM1 hcs
  go_wp2_with fail
  go_loopw [33] (fun iv wr => ∃ (k : Nat) (vs : List Value), k ≤ N ∧ iv = .int .i64 k ∧ Grp wr w3.heap.size w3.heap.size n 28 3 vs (rowsM cl n k) ∧ Below w3.heap.size w3 wr) (fun iv _ => N - (intOf iv).toNat)
  case atStart => exact ⟨0, _, Nat.zero_le _, rfl, hG0, hb4⟩
  case round =>
    obtain ⟨k, vs, hk, rfl, hGr, hbr⟩ := hrel
    clear hG0 hb4
    by_cases hlt : k < N
    · obtain ⟨bc, oc, z, hAe, hD, hx, hf, c0⟩ := SlI.at_ (hcs3.now hbr) hlt
      injection hAe with hAe
      injection hAe with e1 e2 _
      subst e1 e2
      rw [Nat.zero_add] at c0
      rw [List.getElem?_map, List.getElem?_range hlt] at hx
      injection hx with hx
      subst hx
      have hcn := HOK.out.lt k hlt
      rw [hcl] at hcn
      obtain ⟨Ar, cr, r, hr, hv, hown⟩ := hGr.at_ (i := cl k) (by rw [rowsM_len]; exact hcn)
      have hr2 := hr
      rw [rowsM_get hcn] at hr2
      injection hr2 with hr2
      have hrl : r.length ≤ 1000 := by have := rowM_len (cl := cl) k (cl k); rw [hr2] at this; omega
      have HRT : Hid ((rowsM cl n k).set (cl k) (r ++ [(k : Int)]) = rowsM cl n (k + 1)) := by show _ = _; rw [rowsM_succ hcn, hr2]
      clear hr2
      have a1 : (0 : Int) ≤ (k : Int) := by omega
      have a2 : (k : Int) < (N : Int) := by omega
      have a3 : (0 : Int) ≤ (cl k : Int) := by omega
      have a4 : (cl k : Int) < (n : Int) := by omega
      have c1 := hGr.cell hv
      have hbase : w3.heap.size ≤ wr.heap.size := Nat.le_of_lt hGr.out.lt
      go_wp2_with (at_builtin; refine wpList_push appInts' rfl (.tmp 43) (.tmp 45) rfl wr [.int .i64 (k : Int)] rfl (by simp [Value.oneCell']) _ r.length (r.map (Value.int .i64)) rfl hown rfl (by omega) hbase ?_; intro v' w' hown' hgr hat; generalize hW : @wpList = WL)
      subst hW
      obtain ⟨g', cap', rfl, _, _⟩ := World.ownsRow.form hown' (by omega)
      have hmid := hGr.mid hv hgr
      have hG' := hGr.push hv hr (by simpa using hown') hgr hat
      have hb' := hGr.below (v' := .slice (some ⟨g', 0, none⟩) (r.length + 1) cap') (B := w3.heap.size) hv hgr (Nat.le_refl _) hbase
      have hbl := hbr.trans hb'
      rw [HRT.out] at hG'
      have m1 := hmid.cell hv
      have m2 := hmid.frozen (cl k)
      clear c0 c1 hown hown' hgr hat hmid hGr hbr
      go_wp2_with fail
      go_roundw
      case rel => exact ⟨k + 1, _, by omega, by go_num, hG', hbl⟩
      case measure => simp [intOf]; omega
    · have hkN : N = k := by omega
      subst hkN
      clear hlt
      go_upto_region 10 with fail
      have hmem := hGr.slII (fun r hr z hz => by
        obtain ⟨c, hc, rfl⟩ := List.mem_map.1 (show r ∈ rowsM cl n N from hr)
        unfold rowM membs at hz
        obtain ⟨x, hx, rfl⟩ := List.mem_map.1 hz
        have := List.mem_range.1 (List.mem_filter.1 hx).1
        unfold Fit; omega)
      rw [rowsM_len] at hmem
      have hcs5 := hcs3.now hbr
      have hes5 := hes3.now hbr
      have hB5 := hB3.now hbr
      have hbw5 := bthen hbw3 hbr
      clear hGr hcs3 hes3 hB3 hbw3 hbr
      generalize hw5 : wr = w5 at *
      clear hw5
      have HM2 := Lib.hid (run_make_n (P := Tryd.prog) 28 3 (.int .i64 0) 8 Tryd.underlying28 intInfo' n (by omega) (by omega) rfl w5)
      have hm2 := HM2.out
      have hO0 := OwnF.made (f := Value.int .i64) w5 3 n 0 (by unfold maxLen; omega)
      have hO0 : OwnF (Value.int .i64) (w5.alloc (.cells (madeCells #[.int .i64 0] n) 3)) w5.heap.size 3 w5.heap.size n (opens cl (es.take 0) n (List.replicate n false)) := by rw [List.take_zero, opens_nil]; exact hO0
      have hb6 := bone w5 (.cells (madeCells #[.int .i64 0] n) 3)
      have hB6 := hB5.now hb6
      have hes6 := hes5.now hb6
      obtain ⟨q0, q1⟩ := hB6.c2
      go_upto_region 11 with fail
      generalize hw6 : w5.alloc (.cells (madeCells #[.int .i64 0] n) 3) = w6 at *
      clear hw6 hm2 HM2
      go_wp2_with fail
      clear q0 q1
      go_loopw [54] (fun iv wr => ∃ k : Nat, k ≤ es.length ∧ iv = .int .i64 k ∧ OwnF (Value.int .i64) wr w5.heap.size 3 w5.heap.size n (opens cl (es.take k) n (List.replicate n false)) ∧ Below w5.heap.size w5 wr) (fun iv _ => es.length - (intOf iv).toNat)
      case atStart => exact ⟨0, Nat.zero_le _, rfl, hO0, hb6⟩
      case round =>
        obtain ⟨k, hk, rfl, hOr, hbr⟩ := hrel
        clear hO0 hb6 hB6 hes6
        by_cases hlt : k < es.length
        · obtain ⟨be, oe, e, rfl, _, hx, c0, c1⟩ := (hes5.now hbr).at_ hlt
          obtain ⟨i1, i2⟩ := HIN.out e (List.mem_of_getElem? hx)
          have HX := Lib.hid (take_snoc hx)
          have a1 : (0 : Int) ≤ (k : Int) := by omega
          have a2 : (k : Int) < (es.length : Int) := by omega
          have hE := Blk.new wr 36 #[.int .i64 (e.1 : Int), .int .i64 (e.2 : Int)]
          have hbe := bone wr (.cells #[.int .i64 (e.1 : Int), .int .i64 (e.2 : Int)] 36)
          have hOe := hOr.now hbe
          have hbr2 := hbr.trans (hbe.mono hbr.size)
          have hcse := hcs5.now hbr2
          go_upto_region 14 with fail
          generalize hwe : wr.alloc (.cells #[.int .i64 (e.1 : Int), .int .i64 (e.2 : Int)] 36) = we at *
          clear hwe hx c0 c1 hOr hbr hbe
          obtain ⟨e0, e1⟩ := hE.c2
          have n1 := HOK.out.lt e.1 i1
          have n2 := HOK.out.lt e.2 i2
          rw [hcl] at n1 n2
          have c1 := cls_cell hcse i1
          have c2 := cls_cell hcse i2
          have j1 : (0 : Int) ≤ (e.1 : Int) := by omega
          have j2 : (e.1 : Int) < (N : Int) := by omega
          have j3 : (0 : Int) ≤ (e.2 : Int) := by omega
          have j4 : (e.2 : Int) < (N : Int) := by omega
          by_cases hne : cl e.1 = cl e.2
          · have HT : Hid (opens cl (es.take (k + 1)) n (List.replicate n false) = opens cl (es.take k) n (List.replicate n false)) := by show _ = _; rw [HX.out, opens_keep hne]
            have d1 : ((cl e.1 : Int) != (cl e.2 : Int)) = false := by rw [hne]; simp
            clear hne
            rw [← HT.out] at hOe
            go_region
            go_wp2_with fail
            go_roundw
            case rel => exact ⟨k + 1, by omega, by go_num, hOe.drew, hbr2.drew⟩
            case measure => simp [intOf]; omega
          · have HT : Hid (opens cl (es.take (k + 1)) n (List.replicate n false) = (opens cl (es.take k) n (List.replicate n false)).set (cl e.2) (opn cl (es.take k) (List.replicate n false) (cl e.2) + 1)) := by show _ = _; rw [HX.out, opens_snoc n2 hne]
            have d1 : ((cl e.1 : Int) != (cl e.2 : Int)) = true := by simp; omega
            clear hne
            go_region
            have c3 := hOe.drew.cell (opens_get n2)
            have f3 := hOe.drew.frozen (cl e.2)
            have hbd := opn_bound (cl := cl) (es := es.take k) (List.replicate n false) (cl e.2)
            have hbd2 : (es.take k).length ≤ 20000 := by rw [List.length_take]; omega
            have hset := hOe.drew.set_ (cl e.2) (opn cl (es.take k) (List.replicate n false) (cl e.2) + 1)
            rw [← HT.out] at hset
            have hbs := hbr2.drew.setCell (p := ⟨w5.heap.size, cl e.2, none⟩) (Nat.le_refl _) (.int .i64 (opn cl (es.take k) (List.replicate n false) (cl e.2) + 1))
            have j5 : (0 : Int) ≤ (cl e.2 : Int) := by omega
            have j6 : (cl e.2 : Int) < (n : Int) := by omega
            generalize opn cl (es.take k) (List.replicate n false) (cl e.2) = ov at *
            go_wp2_with fail
            go_roundw
            case rel => exact ⟨k + 1, by omega, by go_num, hset, hbs⟩
            case measure => simp [intOf]; omega
        · have hkl : es.length = k := by omega
          subst hkl
          rw [List.take_of_length_le (Nat.le_refl _)] at hOr
          have hes7 := hes5.now hbr
          have hB7 := hB5.now hbr
          have hgOlt := hOr.lt
          clear hlt hes5 hB5
          generalize hw7 : wr = w7 at *
          clear hw7
          obtain ⟨q0, q1⟩ := hB7.c2
          go_wp2_with fail
          refine (gathered_any N es A c _ hes7 hN hl HIN.out).mono ?_
          rintro e w8 ⟨G2, rfl, hnx, hb8⟩
          have hO8 := hOr.now hb8
          have hb58 := hbr.trans (hb8.mono hbr.size)
          have hsz8 := hb8.size
          clear q0 q1 hB7 hes7 hOr hbr hb8
          have HM3 := Lib.hid (run_make_n (P := Tryd.prog) 55 4 (.bool false) 1 Tryd.underlying55 boolInfo' n (by omega) (by omega) rfl w8)
          have hm3 := HM3.out
          have hT9 := OwnF.made (f := Value.bool) w8 4 n false (by unfold maxLen; omega)
          have hb9 := bone w8 (.cells (madeCells #[.bool false] n) 4)
          have hO9 := hO8.now hb9
          have hb59 := hb58.trans (hb9.mono hb58.size)
          have hnx9 := Sl.keep (D' := fun b => w7.heap.size ≤ b ∧ b < w8.heap.size) hnx RRow.kept (fun _ h => h) ((Same.of_below hb9).mono (fun _ h => h.2))
          have hsz9 : w8.heap.size < (w8.alloc (.cells (madeCells #[.bool false] n) 4)).heap.size := by simp
          go_upto_region 20 with fail
          generalize hw9 : w8.alloc (.cells (madeCells #[.bool false] n) 4) = w9 at *
          clear hw9 hm3 HM3 hO8 hb58 hb9 hnx
          go_wp2_with fail
          go_loopw [14, 85] (fun ou iv wr => ∃ (k : Nat) (T : List Bool) (xs : List Value) (sv : Value), k ≤ n ∧ sv = ou ∧ iv = .int .i64 k ∧ T.length = n ∧ T.count true = k ∧ wr.ownsRow w9.heap.size 28 1 sv k xs ∧ OwnF Value.bool wr w8.heap.size 4 w8.heap.size n T ∧ OwnF (Value.int .i64) wr w5.heap.size 3 w5.heap.size n (opens cl es n T) ∧ SlII (fun b => w7.heap.size ≤ b ∧ b < w8.heap.size) wr (.slice (some ⟨G2, 0, none⟩) N N) (rowsN es N) ∧ Below w5.heap.size w5 wr ∧ w9.heap.size ≤ wr.heap.size) (fun _ iv _ => n - (intOf iv).toNat)
          case atStart => exact ⟨0, List.replicate n false, [], _, Nat.zero_le _, rfl, rfl, List.length_replicate, List.count_eq_zero.2 (fun h => by have := List.eq_of_mem_replicate h; cases this), ⟨rfl, .inl ⟨rfl, rfl⟩⟩, hT9, hO9, hnx9, hb59, Nat.le_refl _⟩
          case round =>
            obtain ⟨k, T, xs, sv, hk, rfl, rfl, hTl, hTc, hown, hT, hO, hnxr, hbr, hszr⟩ := hrel
            clear hT9 hO9 hnx9 hb59
            by_cases hlt : k < n
            · have HFREE := Lib.hid (free_one (cl := cl) (es := es) (n := n) (fun e he => by have := HOK.out.mono e he; rw [hcl] at this; exact this) hTl (by rw [hTc]; exact hlt))
              have HTL := Lib.hid hTl
              have HTC := Lib.hid hTc
              clear hTl hTc
              generalize hw10 : wr = w10 at *
              clear hw10
              have hcs10 := hcs5.now hbr
              have hcs10 := Sl.below hcs5 RInt.kept hbr (Nat.le_refl _)
              have hmem10 := Sl.below hmem RRow.kept hbr (Nat.le_refl _)
              go_wp2_with fail
              go_loopw [15, 88] (fun bv iv wr => ∃ (k2 : Nat) (bz : Int), k2 ≤ n ∧ iv = .int .i64 k2 ∧ bv = .int .i64 bz ∧ Hid ((bz = -1 ∧ ∀ c, c < k2 → T.getD c false = false → opn cl es T c = 0 → False) ∨ (∃ b : Nat, bz = (b : Int) ∧ b < n ∧ T.getD b false = false ∧ opn cl es T b = 0)) ∧ Below w10.heap.size w10 wr) (fun _ iv _ => n - (intOf iv).toNat)
              case atStart => exact ⟨0, -1, Nat.zero_le _, rfl, rfl, Or.inl ⟨rfl, fun c hc => absurd hc (Nat.not_lt_zero _)⟩, Below.refl _ _⟩
              case round =>
                obtain ⟨k2, bz, hk2, rfl, rfl, HB, hb2⟩ := hrel
                by_cases hlt2 : k2 < n
                · have a1 : (0 : Int) ≤ (k2 : Int) := by omega
                  have a2 : (k2 : Int) < (n : Int) := by omega
                  have c1 := (hT.now hb2).cell (k := k2) (x := T.getD k2 false) (by rw [List.getD_eq_getElem?_getD, List.getElem?_eq_getElem (by rw [HTL.out]; exact hlt2)]; rfl)
                  have c2 := (hO.now hb2).cell (k := k2) (opens_get hlt2)
                  have hmem2 := Sl.below hmem10 RRow.kept (B := w5.heap.size) (hb2.mono hbr.size) (Nat.le_refl _)
                  obtain ⟨Am, cm, c3, hrm⟩ := rows_atD hmem2 hlt2 (rowsM_get hlt2)
                  obtain ⟨x, l, hx⟩ := membs_pos (cl := cl) (N := N) (c := k2) (by rw [← hcl]; exact HOK.out.ex k2 hlt2)
                  have hml : (rowM cl N k2).length = l.length + 1 := by unfold rowM; rw [hx]; simp
                  rw [hml] at c3 hrm
                  obtain ⟨bm, om, z, rfl, _, hz, _, c4⟩ := SlI.at_ hrm (k := 0) (by omega)
                  rw [Nat.add_zero] at c4
                  have hz2 : z = (x : Int) := by
                    unfold rowM at hz
                    rw [hx] at hz
                    simpa using hz.symm
                  subst hz2
                  have l0 : (0 : Int) < ((l.length + 1 : Nat) : Int) := by omega
                  clear hz hml hx hrm
                  obtain ⟨tc, htc⟩ : ∃ tc, T.getD k2 false = tc := ⟨_, rfl⟩
                  rw [htc] at c1
                  have HTC2 := Lib.hid htc
                  obtain ⟨ov, hov⟩ : ∃ ov, opn cl es T k2 = ov := ⟨_, rfl⟩
                  rw [hov] at c2
                  have HOV := Lib.hid hov
                  clear htc hov
                  have hkeep : ∀ bz', (tc = true ∨ ov ≠ 0) → bz' = bz → Hid ((bz' = -1 ∧ ∀ c, c < k2 + 1 → T.getD c false = false → opn cl es T c = 0 → False) ∨ (∃ b : Nat, bz' = (b : Int) ∧ b < n ∧ T.getD b false = false ∧ opn cl es T b = 0)) := by
                    rintro bz' hno rfl
                    show _ ∨ _
                    rcases HB.out with ⟨h1, h2⟩ | h
                    · refine .inl ⟨h1, fun c hc hct hco => ?_⟩
                      by_cases e : c = k2
                      · subst e
                        rw [HTC2.out] at hct
                        rw [HOV.out] at hco
                        rcases hno with h | h
                        · rw [h] at hct; cases hct
                        · exact h hco
                      · exact h2 c (by omega) hct hco
                    · exact .inr h
                  have HKEEP := Lib.hid hkeep
                  clear hkeep
                  cases tc
                  rotate_left
                  · go_wp2_with fail
                    go_quiet (fail)
                    go_wp2_with fail
                    go_roundw
                    case rel => exact ⟨k2 + 1, bz, by omega, by go_num, rfl, HKEEP.out bz (.inl (by simp)) rfl, bdrawn hb2 _⟩
                    case measure => simp [intOf]; omega
                  by_cases hov0 : ov = 0
                  rotate_left
                  · have d1 : (ov == 0) = false := by simpa using hov0
                    have HOV0 := Lib.hid hov0
                    clear hov0
                    go_wp2_with fail
                    go_quiet (fail)
                    go_wp2_with fail
                    go_roundw
                    case rel => exact ⟨k2 + 1, bz, by omega, by go_num, rfl, HKEEP.out bz (.inr HOV0.out) rfl, bdrawn hb2 _⟩
                    case measure => simp [intOf]; omega
                  have d1 : (ov == 0) = true := by simpa using hov0
                  have HNEW : Hid (∃ b : Nat, (k2 : Int) = (b : Int) ∧ b < n ∧ T.getD b false = false ∧ opn cl es T b = 0) := ⟨k2, rfl, hlt2, HTC2.out, HOV.out.trans hov0⟩
                  clear hov0 HKEEP
                  rcases HB.out with ⟨hb1, hnone⟩ | ⟨b, hb1, hbn, hTb, hOb⟩
                  · subst hb1
                    clear HB hnone
                    go_wp2_with fail
                    go_quiet (fail)
                    go_wp2_with fail
                    go_roundw
                    case rel => exact ⟨k2 + 1, k2, by omega, by go_num, rfl, Or.inr HNEW.out, bdrawn hb2 _⟩
                    case measure => simp [intOf]; omega
                  subst hb1
                  obtain ⟨Ab, cb, e3, hrb⟩ := rows_atD hmem2 hbn (rowsM_get hbn)
                  obtain ⟨y, m, hy⟩ := membs_pos (cl := cl) (N := N) (c := b) (by rw [← hcl]; exact HOK.out.ex b hbn)
                  have hml : (rowM cl N b).length = m.length + 1 := by unfold rowM; rw [hy]; simp
                  rw [hml] at e3 hrb
                  obtain ⟨bb, ob, z, rfl, _, hz, _, e4⟩ := SlI.at_ hrb (k := 0) (by omega)
                  rw [Nat.add_zero] at e4
                  have hz2 : z = (y : Int) := by
                    unfold rowM at hz
                    rw [hy] at hz
                    simpa using hz.symm
                  subst hz2
                  have l1 : (0 : Int) < ((m.length + 1 : Nat) : Int) := by omega
                  have b1 : (0 : Int) ≤ (b : Int) := by omega
                  have b2 : (b : Int) < (n : Int) := by omega
                  have d2 : decide ((b : Int) < 0) = false := by simp
                  have HOLD : Hid (∃ b' : Nat, (b : Int) = (b' : Int) ∧ b' < n ∧ T.getD b' false = false ∧ opn cl es T b' = 0) := ⟨b, rfl, hbn, hTb, hOb⟩
                  clear hz hml hy hrb HB hTb hOb
                  obtain ⟨q, hq⟩ : ∃ q, decide ((x : Int) < (y : Int)) = q := ⟨_, rfl⟩
                  cases q
                  · have hq2 : ¬ (x : Int) < (y : Int) := of_decide_eq_false hq
                    go_wp2_with fail
                    go_quiet (fail)
                    go_wp2_with fail
                    go_roundw
                    case rel => exact ⟨k2 + 1, b, by omega, by go_num, rfl, Or.inr HOLD.out, bdrawn hb2 _⟩
                    case measure => simp [intOf]; omega
                  · have hq2 : (x : Int) < (y : Int) := of_decide_eq_true hq
                    go_wp2_with fail
                    go_quiet (fail)
                    go_wp2_with fail
                    go_roundw
                    case rel => exact ⟨k2 + 1, k2, by omega, by go_num, rfl, Or.inr HNEW.out, bdrawn hb2 _⟩
                    case measure => simp [intOf]; omega
                · have hk2n : n = k2 := by omega
                  subst hk2n
                  obtain ⟨b, hbz, hbn, hTb, hOb⟩ : ∃ b : Nat, bz = (b : Int) ∧ b < n ∧ T.getD b false = false ∧ opn cl es T b = 0 := by
                    rcases HB.out with ⟨_, h⟩ | h
                    · obtain ⟨c, hc, h1, h2⟩ := HFREE.out
                      exact (h c hc h1 h2).elim
                    · exact h
                  subst hbz
                  have HTB := Lib.hid hTb
                  have hT11 := hT.now hb2
                  have hO11 := hO.now hb2
                  have hnx11 := Sl.keep hnxr RRow.kept (D' := fun b => w7.heap.size ≤ b ∧ b < w8.heap.size) (fun _ h => h) ((Same.of_below hb2).mono (fun x h => Nat.lt_of_lt_of_le h.2 (Nat.le_trans (Nat.le_of_lt hsz9) hszr)))
                  have hown11 := own_now hown hb2
                  have hbr11 := hbr.trans (hb2.mono hbr.size)
                  have hszr11 := Nat.le_trans hszr hb2.size
                  clear HB hTb hOb hT hO hnxr hown hbr hszr HFREE hmem10 hcs10 hlt2
                  generalize hw11 : wr = w11 at *
                  clear hw11 hb2
                  have hmem11 := Sl.below hmem RRow.kept hbr11 (Nat.le_refl _)
                  have hcs11 := Sl.below hcs5 RInt.kept hbr11 (Nat.le_refl _)
                  have b1 : (0 : Int) ≤ (b : Int) := by omega
                  have b2 : (b : Int) < (n : Int) := by omega
                  have c1 := hT11.cell (k := b) (x := false) (by have := HTB.out; rw [List.getD_eq_getElem?_getD] at this; rw [List.getElem?_eq_getElem (by rw [HTL.out]; exact hbn)] at this ⊢; simpa using this)
                  have f1 := hT11.frozen b
                  go_upto_region 30 with fail
                  have hT12 := hT11.set_ b true
                  have hO12 := hO11.far (p := ⟨w8.heap.size, b, none⟩) (show w8.heap.size ≠ w5.heap.size by omega) (.bool true)
                  have hnx12 := Sl.keep hnx11 RRow.kept (D' := fun x => w7.heap.size ≤ x ∧ x < w8.heap.size) (w' := w11.setCell ⟨w8.heap.size, b, none⟩ (.bool true)) (fun _ h => h) (fun x h => Below.heap_setCell w11 _ _ x (show x ≠ w8.heap.size from Nat.ne_of_lt h.2))
                  have hown12 := ownsRow_setCell_other (a := ⟨w8.heap.size, b, none⟩) hown11 (fun e => by have h1 := (hown11.lt _ e).1; have h2 : w9.heap.size ≤ w8.heap.size := h1; omega) (.bool true)
                  have hbr12 := hbr11.setCell (p := ⟨w8.heap.size, b, none⟩) (show w5.heap.size ≤ w8.heap.size by omega) (.bool true)
                  have hszr12 : w9.heap.size ≤ (w11.setCell ⟨w8.heap.size, b, none⟩ (.bool true)).heap.size := by simpa using hszr11
                  clear c1 f1 hT11 hO11 hnx11 hown11 hbr11 hszr11 hmem11 hcs11
                  generalize hw12 : w11.setCell ⟨w8.heap.size, b, none⟩ (.bool true) = w12 at *
                  clear hw12
                  have hmem12 := Sl.below hmem RRow.kept hbr12 (Nat.le_refl _)
                  obtain ⟨Ab, cb, c2, hrb⟩ := rows_atD hmem12 hbn (rowsM_get hbn)
                  go_wp2_with (at_builtin; refine wpList_push appRows' rfl (.tmp 127) (.tmp 132) rfl w12 [.slice Ab (rowM cl N b).length cb] rfl (by simp [Value.oneCell']) _ k xs rfl hown12 rfl (by omega) hszr12 ?_; intro v' w' hown' hgr hat; generalize hW : @wpList = WL)
                  subst hW
                  have hnb : ∀ g, sv.ownBlock = some g → w9.heap.size ≤ g := fun g e => (hown12.lt g e).1
                  have hT13 := hT12.grown hgr (fun e => by have := hnb _ e.symm; omega)
                  have hO13 := hO12.grown hgr (fun e => by have := hnb _ e.symm; omega)
                  have hbr13 : Below w5.heap.size w5 w' := hbr12.trans (below_of_grown hgr (by omega) (fun g e => by have := hnb _ e; omega))
                  have hnx13 := Sl.keep hnx12 RRow.kept (D' := fun x => w7.heap.size ≤ x ∧ x < w8.heap.size) (w' := w') (fun _ h => h) (fun x h => hgr.block x (by have := h.2; omega) (fun e => by have := hnb _ e.symm; have := h.2; omega))
                  have hszr13 : w9.heap.size ≤ w'.heap.size := Nat.le_trans hszr12 hgr.size
                  clear hT12 hO12 hnx12 hown12 hbr12 hszr12 hgr hat c2 hrb hmem12 hnb
                  generalize hw13 : w' = w13 at *
                  clear hw13
                  have hmem13 := Sl.below hmem RRow.kept hbr13 (Nat.le_refl _)
                  obtain ⟨Ab2, cb2, c2, hrb⟩ := rows_atD hmem13 hbn (rowsM_get hbn)
                  have hrl : (rowM cl N b).length = (membs cl N b).length := by unfold rowM; rw [List.length_map]
                  have hrl2 : (membs cl N b).length ≤ 1000 := by have := rowM_len (cl := cl) N b; omega
                  rw [hrl] at c2 hrb
                  have hO13 : OwnF (Value.int .i64) w13 w5.heap.size 3 w5.heap.size n (opensD cl es n T b (((membs cl N b).take 0).flatMap (nextE es))) := by
                    rw [List.take_zero, List.flatMap_nil, opensD_nil]; exact hO13
                  clear hrl
                  obtain ⟨L, hL⟩ : ∃ L, (membs cl N b).length = L := ⟨_, rfl⟩
                  rw [hL] at c2 hrb hrl2
                  go_wp2_with fail
                  clear c2
                  go_loopw [139] (fun iv wr => ∃ i : Nat, i ≤ L ∧ iv = .int .i64 i ∧ OwnF (Value.int .i64) wr w5.heap.size 3 w5.heap.size n (opensD cl es n T b (((membs cl N b).take i).flatMap (nextE es))) ∧ w13.grownBy wr (some w5.heap.size)) (fun iv _ => L - (intOf iv).toNat)
                  case atStart => exact ⟨0, Nat.zero_le _, rfl, hO13, grown_of_below (Below.refl _ _) _⟩
                  case round =>
                    obtain ⟨i, hi, rfl, hOi, hgi⟩ := hrel
                    have hTi := hT13.grown hgi (fun e => by injection e with e; omega)
                    have hbri : Below w5.heap.size w5 wr := hbr13.trans (below_of_grown hgi (by omega) (fun g e => by injection e with e; omega))
                    have hnxi := Sl.keep hnx13 RRow.kept (D' := fun x => w7.heap.size ≤ x ∧ x < w8.heap.size) (w' := wr) (fun _ h => h) (fun x h => hgi.block x (by have := h.2; omega) (fun e => by injection e with e; have := h.1; omega))
                    have hszi : w9.heap.size ≤ wr.heap.size := Nat.le_trans hszr13 hgi.size
                    by_cases hlti : i < L
                    · obtain ⟨br, orr, z, rfl, _, hz, _, c3⟩ := SlI.at_ (Sl.below hrb RInt.kept (B := w5.heap.size) (below_of_grown hgi (by omega) (fun g e => by injection e with e; omega)) (Nat.le_refl _)) hlti
                      have hv : ∃ v, (membs cl N b)[i]? = some v ∧ z = (v : Int) := by
                        unfold rowM at hz
                        rw [List.getElem?_map] at hz
                        obtain ⟨v, h1, h2⟩ := Option.map_eq_some_iff.1 hz
                        exact ⟨v, h1, h2.symm⟩
                      obtain ⟨v, hv, rfl⟩ := hv
                      obtain ⟨hvN, hvb⟩ := membs_mem.1 (List.mem_of_getElem? hv)
                      have HSPL := Lib.hid (membs_split hv (nextE es))
                      obtain ⟨An, cn, c4, hrn⟩ := rows_atD hnxi hvN (rowsN_get hvN)
                      have hnl : (rowN es v).length = (nextE es v).length := by unfold rowN; rw [List.length_map]
                      have hnl2 : (nextE es v).length ≤ 20000 := by have := rowN_len es v; omega
                      rw [hnl] at c4 hrn
                      obtain ⟨M, hM⟩ : ∃ M, (nextE es v).length = M := ⟨_, rfl⟩
                      rw [hM] at c4 hrn hnl2
                      have a1 : (0 : Int) ≤ (i : Int) := by omega
                      have a2 : (i : Int) < (L : Int) := by omega
                      have a3 : (0 : Int) ≤ (v : Int) := by omega
                      have a4 : (v : Int) < (N : Int) := by omega
                      have hcsi := Sl.below hcs5 RInt.kept hbri (Nat.le_refl _)
                      obtain ⟨Di, hDi⟩ : ∃ Di, ((membs cl N b).take i).flatMap (nextE es) = Di := ⟨_, rfl⟩
                      rw [hDi] at hOi HSPL
                      have HDI := Lib.hid hDi
                      clear hDi hz hv hnl hvb
                      generalize hw14 : wr = w14 at *
                      clear hw14
                      have hOi : OwnF (Value.int .i64) w14 w5.heap.size 3 w5.heap.size n (opensD cl es n T b (Di ++ (nextE es v).take 0)) := by rw [List.take_zero, List.append_nil]; exact hOi
                      go_wp2_with fail
                      clear c3 c4
                      go_loopw [148] (fun jv wr => ∃ j : Nat, j ≤ M ∧ jv = .int .i64 j ∧ OwnF (Value.int .i64) wr w5.heap.size 3 w5.heap.size n (opensD cl es n T b (Di ++ (nextE es v).take j)) ∧ w14.grownBy wr (some w5.heap.size)) (fun jv _ => M - (intOf jv).toNat)
                      case atStart => exact ⟨0, Nat.zero_le _, rfl, hOi, grown_of_below (Below.refl _ _) _⟩
                      case round =>
                        obtain ⟨j, hj, rfl, hOj, hgj⟩ := hrel
                        by_cases hltj : j < M
                        · obtain ⟨bn, on, z, rfl, _, hz, _, c5⟩ := SlI.at_ (Sl.keep hrn RInt.kept (D' := fun x => w7.heap.size ≤ x ∧ x < w8.heap.size) (w' := wr) (fun _ h => h) (fun x h => hgj.block x (by have := h.2; omega) (fun e => by injection e with e; have := h.1; omega))) hltj
                          have hu : ∃ u, (nextE es v)[j]? = some u ∧ z = (u : Int) := by
                            unfold rowN at hz
                            rw [List.getElem?_map] at hz
                            obtain ⟨u, h1, h2⟩ := Option.map_eq_some_iff.1 hz
                            exact ⟨u, h1, h2.symm⟩
                          obtain ⟨u, hu, rfl⟩ := hu
                          have huN : u < N := (HIN.out _ (nextE_mem.1 (List.mem_of_getElem? hu))).2
                          have hcu : cl u < n := by have := HOK.out.lt u huN; rw [hcl] at this; exact this
                          have HTK : Hid (Di ++ (nextE es v).take (j + 1) = Di ++ (nextE es v).take j ++ [u]) := by
                            show _ = _
                            rw [List.take_add_one, hu, List.append_assoc]; rfl
                          have HBD := Lib.hid (opnD_bound (cl := cl) (N := N) (b := b) (T := T) (done := Di ++ (nextE es v).take j) (rest := (nextE es v).drop j ++ ((membs cl N b).drop (i + 1)).flatMap (nextE es)) (fun e he => (HIN.out e he).1) (by rw [HTL.out]; exact hbn) HTB.out (split_mid HSPL.out.1 j) (cl u))
                          have c6 := cls_cell (Sl.below hcsi RInt.kept (B := w5.heap.size) (below_of_grown hgj (by omega) (fun g e => by injection e with e; omega)) (Nat.le_refl _)) huN
                          have a5 : (0 : Int) ≤ (j : Int) := by omega
                          have a6 : (j : Int) < (M : Int) := by omega
                          have a7 : (0 : Int) ≤ (u : Int) := by omega
                          have a8 : (u : Int) < (N : Int) := by omega
                          clear hz hu
                          by_cases hub : cl u = b
                          · have HE : Hid (opensD cl es n T b (Di ++ (nextE es v).take (j + 1)) = opensD cl es n T b (Di ++ (nextE es v).take j)) := by show _ = _; rw [HTK.out, opensD_keep hub]
                            have d1 : ((cl u : Int) != (b : Int)) = false := by rw [hub]; simp
                            clear hub
                            rw [← HE.out] at hOj
                            go_wp2_with fail
                            go_roundw
                            case rel => exact ⟨j + 1, by omega, by go_num, hOj, hgj⟩
                            case measure => simp [intOf]; omega
                          · have HE : Hid (opensD cl es n T b (Di ++ (nextE es v).take (j + 1)) = (opensD cl es n T b (Di ++ (nextE es v).take j)).set (cl u) (opnD cl es T b (Di ++ (nextE es v).take j) (cl u) - 1)) := by show _ = _; rw [HTK.out, opensD_snoc hcu hub]
                            have d1 : ((cl u : Int) != (b : Int)) = true := by simp; omega
                            clear hub
                            have c7 := hOj.cell (opensD_get hcu)
                            have f7 := hOj.frozen (cl u)
                            have hset := hOj.set_ (cl u) (opnD cl es T b (Di ++ (nextE es v).take j) (cl u) - 1)
                            rw [← HE.out] at hset
                            have hbd1 := HBD.out.1
                            have hbd2 := HBD.out.2
                            have hgs := grownT hgj (grownS wr w5.heap.size (cl u) (.int .i64 (opnD cl es T b (Di ++ (nextE es v).take j) (cl u) - 1)))
                            have a9 : (0 : Int) ≤ (cl u : Int) := by omega
                            have a10 : (cl u : Int) < (n : Int) := by omega
                            clear HE HBD
                            generalize opnD cl es T b (Di ++ (nextE es v).take j) (cl u) = ov at *
                            go_wp2_with fail
                            go_roundw
                            case rel => exact ⟨j + 1, by omega, by go_num, hset, hgs⟩
                            case measure => simp [intOf]; omega
                        · have hjM : j = M := by omega
                          rw [hjM, ← hM, List.take_of_length_le (Nat.le_refl _), ← HSPL.out.2] at hOj
                          go_wp2_with fail
                          go_roundw
                          case rel => exact ⟨i + 1, by omega, by go_num, hOj, grownT hgi hgj⟩
                          case measure => simp [intOf]; omega
                    · have hLi : i = L := by omega
                      rw [hLi, ← hL, List.take_of_length_le (Nat.le_refl _), opensD_all (fun e he => (HIN.out e he).1) (by rw [HTL.out]; exact hbn) HTB.out] at hOi
                      have HCS := Lib.hid (count_set (T := T) (b := b) (by rw [HTL.out]; exact hbn) HTB.out)
                      have hown14 : wr.ownsRow w9.heap.size 28 1 v' (k + 1) (xs ++ [.slice Ab (rowM cl N b).length cb]) := hown'.kept hgi (by
                        cases e : v'.ownBlock with
                        | none => exact .inl rfl
                        | some g => exact .inr (fun e2 => by injection e2 with e2; have := (hown'.lt g e).1; omega))
                      go_wp2_with fail
                      go_roundw
                      case rel => exact ⟨k + 1, T.set b true, _, v', by omega, rfl, by go_num, by rw [List.length_set]; exact HTL.out, by rw [HCS.out, HTC.out], hown14, hTi, hOi, hnxi, hbri, hszi⟩
                      case measure => simp [intOf]; omega
            · have hkn : n = k := by omega
              subst hkn
              obtain ⟨A', c', rfl⟩ : ∃ A' c', sv = .slice A' n c' := by
                rcases hown.2 with ⟨e, e0⟩ | ⟨g, c, cur, e, _⟩
                · exact ⟨none, 0, by rw [e, e0]⟩
                · exact ⟨_, _, e⟩
              go_wp2_with fail
              go_ret2
              rw [hn]
              exact ⟨_, _, rfl, hbw5.trans (hbr.mono hbw5.size)⟩
end Go.Proofs.YtlkkfkkhllijbaaDoor
