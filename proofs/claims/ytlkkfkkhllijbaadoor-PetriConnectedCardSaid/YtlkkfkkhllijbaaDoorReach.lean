/- petri.reached. -/
import Derived.Test.YtlkkfkkhllijbaaDoorReachSpec
import Derived.Test.YtlkkfkkhllijbaaDoorInitial
import Derived.Deep.QuietTactic
import Derived.BigQuiet
import Derived.RegionTactic
import Derived.BigRegion
import Derived.Deep.DeepCutAuto
import Derived.Deep.LoopGhost
import Derived.Deep.Light
namespace Go.Proofs.YtlkkfkkhllijbaaDoor
open Go.RowKit

set_option maxHeartbeats 400000 in
theorem indexB (v : Value) (xs : List Bool) (x : Bool) (w : World) (hu : SlB (Lt w.heap.size) w v xs) :
    Calls Tryd.prog 43 #[v, .bool x] w fun e w' => e = .returned (.int .i64 (firstAt (fun y => x == y) xs)) ∧ w = w' := by
  obtain ⟨A, c, rfl, h1, h2, hu⟩ := hu.open_
  go_enter Tryd.func43, Tryd.ntmps43
  go_wp2_with fail
  go_loop [8] (fun i => ∃ j : Nat, j ≤ xs.length ∧ i = .int .i64 j ∧ ∀ (q : Nat) (y : Bool), q < j → xs[q]? = some y → (x == y) = false) (fun i => xs.length - (intOf i).toNat)
  case atStart => exact ⟨0, Nat.zero_le _, rfl, fun q _ h => absurd h (by omega)⟩
  case round =>
    obtain ⟨j, hj, rfl, hp⟩ := hrel
    have HP := Lib.hid hp
    clear hp
    by_cases hlt : j < xs.length
    · obtain ⟨b, o, y, rfl, hD, hx, hcell⟩ := hu.at_ hlt
      have HX := Lib.hid hx
      clear hx
      cases hxy : (x == y) with
      | true =>
        go_wp2
        go_ret
        exact ⟨ret_int (firstAt_hit _ xs j y HX.out hxy HP.out).symm, rfl⟩
      | false =>
        go_wp2
        go_round
        case rel =>
          refine ⟨j + 1, by omega, by go_num, fun q z hq hz => ?_⟩
          by_cases e : q = j
          · subst e; rw [HX.out] at hz; injection hz with hz; subst hz; exact hxy
          · exact HP.out q z (by omega) hz
        case measure => simp [intOf]; omega
    · go_wp2
      go_ret
      exact ⟨ret_int (firstAt_miss _ xs (fun q y hq hy => HP.out q y (by omega) hy)).symm, rfl⟩

set_option maxHeartbeats 400000 in
theorem containsB (v : Value) (xs : List Bool) (x : Bool) (w : World) (hu : SlB (Lt w.heap.size) w v xs) :
    Calls Tryd.prog 24 #[v, .bool x] w fun e w' => e = .returned (.bool (xs.any fun y => x == y)) ∧ w = w' := by
  have HC := Lib.hid (indexB v xs x w hu)
  have HE := Lib.hid (firstAt_any (fun y => x == y) xs)
  clear hu
  generalize firstAt (fun y => x == y) xs = r at HC HE
  go_enter Tryd.func24, Tryd.ntmps24
  go_wp2_with (go_at_call 43; refine HC.out.mono ?_; rintro e w' ⟨rfl, rfl⟩)
  go_ret
  exact ⟨ret_bool HE.out, rfl⟩

set_option maxHeartbeats 400000 in
theorem reached1_any (p : Int) (v pv : Value) (B : Nat) (pl : List Bool) (w : World) (h : v = .int .i64 p) (hp : 0 ≤ p ∧ p.toNat < pl.length) (hc : w.cell? ⟨B, 0, none⟩ = some pv) (hm : SlB (Lt w.heap.size) w pv pl) :
    Calls Tryd.prog 42 #[v, .pointer (some ⟨B, 0, none⟩)] w fun e w' => e = .returned (.bool (pl.getD p.toNat false)) ∧ Below w.heap.size w w' := by
  subst h
  obtain ⟨k, rfl⟩ := Int.eq_ofNat_of_zero_le hp.1
  obtain ⟨Am, cm, rfl, m1, m2, hm⟩ := hm.open_
  rw [Int.toNat_natCast] at *
  have hk : k < pl.length := hp.2
  obtain ⟨b, o, x, rfl, hD, hx, hcell⟩ := hm.at_ hk
  rw [List.getD_eq_getElem?_getD, hx]
  clear hx hp
  go_enter Tryd.func42, Tryd.ntmps42
  go_wp2
  go_ret
  exact ⟨rfl, Below.refl _ _⟩

/-- The two rows that the search fills, and the variable that holds the first. -/
structure RSt (w0 wr : World) (B gb gp gt : Nat) (P N : Nat) (pl tr : List Bool) : Prop where
  op : OwnF Value.bool wr B 4 gp P pl
  ot : OwnF Value.bool wr B 4 gt N tr
  lp : pl.length = P
  lt : tr.length = N
  bb : Blk wr gb 55 #[.slice (some ⟨gp, 0, none⟩) P P]
  gbl : B ≤ gb
  n1 : gp ≠ gt
  n2 : gb ≠ gp
  n3 : gb ≠ gt
  below : Below B w0 wr

section
variable {w0 wr wr' : World} {B gb gp gt P N : Nat} {pl tr : List Bool}
theorem RSt.now (h : RSt w0 wr B gb gp gt P N pl tr) (hb : Below wr.heap.size wr wr') (hB : B ≤ wr.heap.size) : RSt w0 wr' B gb gp gt P N pl tr :=
  ⟨h.op.now hb, h.ot.now hb, h.lp, h.lt, h.bb.now hb, h.gbl, h.n1, h.n2, h.n3, h.below.trans (hb.mono hB)⟩
theorem RSt.drewN (h : RSt w0 wr B gb gp gt P N pl tr) (q : Nat) : RSt w0 (wr.drewN q) B gb gp gt P N pl tr :=
  ⟨h.op, h.ot, h.lp, h.lt, h.bb, h.gbl, h.n1, h.n2, h.n3, bdrawn h.below q⟩
theorem RSt.setT (h : RSt w0 wr B gb gp gt P N pl tr) (i : Nat) : RSt w0 (wr.setCell ⟨gt, i, none⟩ (.bool true)) B gb gp gt P N pl (tr.set i true) :=
  ⟨h.op.far (fun e => h.n1 e.symm) _, h.ot.set_ i true, h.lp, by rw [List.length_set]; exact h.lt, h.bb.far h.n3 _, h.gbl, h.n1, h.n2, h.n3, h.below.setCell (p := ⟨gt, i, none⟩) h.ot.from_ _⟩
theorem RSt.setP (h : RSt w0 wr B gb gp gt P N pl tr) (i : Nat) : RSt w0 (wr.setCell ⟨gp, i, none⟩ (.bool true)) B gb gp gt P N (pl.set i true) tr :=
  ⟨h.op.set_ i true, h.ot.far (fun e => h.n1 e) _, by rw [List.length_set]; exact h.lp, h.lt, h.bb.far h.n2 _, h.gbl, h.n1, h.n2, h.n3, h.below.setCell (p := ⟨gp, i, none⟩) h.op.from_ _⟩
theorem RSt.slP (h : RSt w0 wr B gb gp gt P N pl tr) : SlB (Lt wr.heap.size) wr (.slice (some ⟨gp, 0, none⟩) P P) pl := by
  have := h.op.slB; rwa [h.lp] at this
theorem RSt.slT (h : RSt w0 wr B gb gp gt P N pl tr) : SlB (Lt wr.heap.size) wr (.slice (some ⟨gt, 0, none⟩) N N) tr := by
  have := h.ot.slB; rwa [h.lt] at this
end
section
variable {w0 : World} {s n : Nat}
theorem own3_0 (hs : w0.heap.size = s) (hn : n ≤ maxLen) (b c : Obj) : OwnF Value.bool (((w0.alloc (.cells (madeCells #[.bool false] n) 4)).alloc b).alloc c).drew s 4 s n (List.replicate n false) := by
  subst hs; exact (((OwnF.made (f := Value.bool) w0 _ n false hn).now (bbox (bone _ _) _))).drew
theorem own3_1 (hs : w0.heap.size = s) (hn : n ≤ maxLen) (a c : Obj) : OwnF Value.bool (((w0.alloc a).alloc (.cells (madeCells #[.bool false] n) 4)).alloc c).drew s 4 (s + 1) n (List.replicate n false) := by
  subst hs
  have := ((OwnF.made (f := Value.bool) (w0.alloc a) 4 n false hn).now (bone _ c)).mono (base' := w0.heap.size) (by simp)
  rw [World.size_alloc] at this
  exact this.drew
theorem own3_2 (hs : w0.heap.size = s) (hn : n ≤ maxLen) (a b : Obj) : OwnF Value.bool (((w0.alloc a).alloc b).alloc (.cells (madeCells #[.bool false] n) 4)).drew s 4 (s + 1 + 1) n (List.replicate n false) := by
  subst hs
  have := (OwnF.made (f := Value.bool) ((w0.alloc a).alloc b) 4 n false hn).mono (base' := w0.heap.size) (by simp; omega)
  rw [World.size_alloc, World.size_alloc] at this
  exact this.drew
end
section
variable {w0 : World} {s t : Nat} {cs : Array Value}
theorem blk3_0 (hs : w0.heap.size = s) (b c : Obj) : Blk (((w0.alloc (.cells cs t)).alloc b).alloc c).drew s t cs := by
  subst hs; exact (((Blk.new w0 t cs).alloc b).alloc c).drew
theorem blk3_1 (hs : w0.heap.size = s) (a c : Obj) : Blk (((w0.alloc a).alloc (.cells cs t)).alloc c).drew (s + 1) t cs := by
  subst hs
  have := ((Blk.new (w0.alloc a) t cs).alloc c).drew
  rwa [World.size_alloc] at this
theorem blk3_2 (hs : w0.heap.size = s) (a b : Obj) : Blk (((w0.alloc a).alloc b).alloc (.cells cs t)).drew (s + 1 + 1) t cs := by
  subst hs
  have := (Blk.new ((w0.alloc a).alloc b) t cs).drew
  rwa [World.size_alloc, World.size_alloc] at this
theorem below3 (hs : w0.heap.size = s) (a b c : Obj) : Below s w0 (((w0.alloc a).alloc b).alloc c).drew := by
  subst hs; exact (bbox (bbox (bone _ _) _) _).drew
end

def RetFound (ts : List (List Int × List Int)) (P : Nat) (a : Int) (w : World) (e : Ending) (w' : World) : Prop :=
  ∃ pv tv pl tr, e = .returned (.tuple #[pv, tv]) ∧ SlB (Lt w'.heap.size) w' pv pl ∧ SlB (Lt w'.heap.size) w' tv tr ∧ Found ts P a pl tr ∧ Below w.heap.size w w'

set_option maxHeartbeats 2000000 in
theorem reached_any (n : Net) (v : Value) (a : Int) (back : Bool) (w : World) (h : IsNet (Lt w.heap.size) w v n) (hv : validB n = true) (ha : 0 ≤ a ∧ a < n.places) :
    Calls Tryd.prog 23 #[v, .int .i64 a, .bool back] w (RetFound (arcs back n) n.places.toNat a w) := by
  have HIN := Lib.hid (inPl_arcs hv back)
  obtain ⟨v1, v2, v3, v4⟩ := validOk hv
  clear hv v4
  obtain ⟨tv, rfl, hp, hs, hkk, ht⟩ := h
  obtain ⟨A, c, rfl, h1, h2, ht⟩ := ht.open_
  obtain ⟨P, hP⟩ := Int.eq_ofNat_of_zero_le (show 0 ≤ n.places by omega)
  obtain ⟨k, rfl⟩ := Int.eq_ofNat_of_zero_le ha.1
  have hkP : k < P := by omega
  rw [hP] at HIN ⊢
  rw [show ((P : Int).toNat) = P from rfl] at HIN ⊢
  have hP40 : P ≤ 40 := by omega
  clear hP ha v1 v2
  have hmk1 := run_make_n (P := Tryd.prog) 55 4 (.bool false) 1 Tryd.underlying55 boolInfo P (by omega) (by omega) rfl
  have hmk2 := run_make_n (P := Tryd.prog) 55 4 (.bool false) 1 Tryd.underlying55 boolInfo n.trans.length (by omega) (by omega) rfl
  go_enter Tryd.func23, Tryd.ntmps23
  go_upto_region 1 with fail
  go_cut [8, 9] (fun s8 s9 wx => ∃ gb gp gt : Nat, s8 = .pointer (some ⟨gb, 0, none⟩) ∧ s9 = .slice (some ⟨gt, 0, none⟩) n.trans.length n.trans.length ∧ RSt (w.alloc (.cells #[.int .i64 (P : Int), .slice A n.trans.length c, .int .i64 n.source, .int .i64 n.sink] 24)) wx (w.heap.size + 1) gb gp gt P n.trans.length (List.replicate P false) (List.replicate n.trans.length false))
  case first =>
    go_region
    all_goals (go_wp2_with fail; go_meet)
    all_goals
      go_light
      have hm1 : P ≤ maxLen := by unfold maxLen; omega
      have hm2 : n.trans.length ≤ maxLen := by unfold maxLen; omega
      have hs : (w.alloc (.cells #[.int .i64 (P : Int), .slice A n.trans.length c, .int .i64 n.source, .int .i64 n.sink] 24)).heap.size = w.heap.size + 1 := World.size_alloc _ _
      first
        | exact ⟨_, w.heap.size + 1, _, rfl, rfl, own3_0 hs hm1 _ _, own3_1 hs hm2 _ _, by simp, by simp, blk3_2 hs _ _, by omega, by omega, by omega, by omega, below3 hs _ _ _⟩
        | exact ⟨_, w.heap.size + 1, _, rfl, rfl, own3_0 hs hm1 _ _, own3_2 hs hm2 _ _, by simp, by simp, blk3_1 hs _ _, by omega, by omega, by omega, by omega, below3 hs _ _ _⟩
        | exact ⟨_, w.heap.size + 1 + 1, _, rfl, rfl, own3_1 hs hm1 _ _, own3_2 hs hm2 _ _, by simp, by simp, blk3_0 hs _ _, by omega, by omega, by omega, by omega, below3 hs _ _ _⟩
        | exact ⟨_, w.heap.size + 1 + 1 + 1, _, rfl, rfl, own3_2 hs hm1 _ _, own3_1 hs hm2 _ _, by simp, by simp, blk3_0 hs _ _, by omega, by omega, by omega, by omega, below3 hs _ _ _⟩
        | exact ⟨_, w.heap.size + 1 + 1, _, rfl, rfl, own3_1 hs hm1 _ _, own3_0 hs hm2 _ _, by simp, by simp, blk3_2 hs _ _, by omega, by omega, by omega, by omega, below3 hs _ _ _⟩
        | exact ⟨_, w.heap.size + 1 + 1 + 1, _, rfl, rfl, own3_2 hs hm1 _ _, own3_0 hs hm2 _ _, by simp, by simp, blk3_1 hs _ _, by omega, by omega, by omega, by omega, below3 hs _ _ _⟩
  case rest =>
    obtain ⟨gb, gp, gt, rfl, rfl, hst⟩ := hcut
    have c0 := hst.bb.c1
    have hf0 := hst.op.frozen k
    have hc0 := hst.op.cell (k := k) (x := false) (by simp [hkP])
    go_wp2_with fail
    have hst1 := hst.setP k
    have hInv : Inv (arcs back n) P (k : Int) ((List.replicate P false).set k true) (List.replicate n.trans.length false) := by
      have := Inv.start (ts := arcs back n) (P := P) (a := (k : Int)) (by omega) (by omega)
      rw [show (arcs back n).length = n.trans.length from by unfold arcs; simp] at this
      exact this
    have hfl : falses (List.replicate n.trans.length false) ≤ n.trans.length := by unfold falses; exact Nat.le_trans (List.length_filter_le _ _) (by simp)
    clear c0 hf0 hc0 hst hmk1 hmk2
    go_loopg [10] (2 * n.trans.length + 1) (fun gg s10 wr => ∃ (ch : Bool) (pl tr : List Bool), s10 = .bool ch ∧ 2 * falses tr + (if ch then 1 else 0) ≤ gg ∧ Inv (arcs back n) P (k : Int) pl tr ∧ (ch = false → ∀ i t, (arcs back n)[i]? = some t → tr.getD i false = true ∨ anyIn pl t.1 = false) ∧ RSt (w.alloc (.cells #[.int .i64 (P : Int), .slice A n.trans.length c, .int .i64 n.source, .int .i64 n.sink] 24)) wr (w.heap.size + 1) gb gp gt P n.trans.length pl tr)
    case atStart => exact ⟨true, _, _, rfl, by simp; omega, hInv, (fun h => by cases h), hst1⟩
    case round =>
      obtain ⟨ch, pl, tr, rfl, hgg, hI, hend, hst⟩ := hrel
      have HI := Lib.hid hI
      have HEND := Lib.hid hend
      clear hI hend hst1 hInv hfl
      have hB0 := (Blk.new w 24 #[.int .i64 (P : Int), .slice A n.trans.length c, .int .i64 n.source, .int .i64 n.sink]).below hst.below (by omega)
      obtain ⟨q0, q1, q2, q3⟩ := hB0.c4
      cases ch
      · have HF := Lib.hid (HI.out.found (by omega) HIN.out (HEND.out rfl))
        have c0 := hst.bb.c1
        go_wp2_with fail
        go_ret2
        exact ⟨_, _, _, _, rfl, hst.slP, hst.slT, HF.out, (bone w _).trans (hst.below.mono (by omega))⟩
      · go_wp2_with fail
        obtain ⟨wo, rfl⟩ : ∃ wo : World, wo = wr := ⟨_, rfl⟩
        have hgg' : 2 * falses tr + 1 ≤ _ := hgg
        have HST := Lib.hid hst
        clear hst hgg HEND q0 q1 q2 q3 hB0
        go_loopg [10, 31] n.trans.length (fun gg s10 s31 wr => ∃ (i : Nat) (ch : Bool) (pl' tr' : List Bool), i ≤ n.trans.length ∧ n.trans.length - i ≤ gg ∧ s31 = .int .i64 i ∧ s10 = .bool ch ∧ falses tr' + (if ch then 1 else 0) ≤ falses tr ∧ Inv (arcs back n) P (k : Int) pl' tr' ∧ (ch = false → ∀ j t, j < i → (arcs back n)[j]? = some t → tr'.getD j false = true ∨ anyIn pl' t.1 = false) ∧ RSt (w.alloc (.cells #[.int .i64 (P : Int), .slice A n.trans.length c, .int .i64 n.source, .int .i64 n.sink] 24)) wr (w.heap.size + 1) gb gp gt P n.trans.length pl' tr')
        case atStart => exact ⟨0, false, pl, tr, Nat.zero_le _, by omega, rfl, rfl, by simp, HI.out, (fun _ j t h => absurd h (by omega)), HST.out⟩
        case round =>
          obtain ⟨i, ch, pl', tr', hi, hg2, rfl, rfl, hfl, hI, hend, hst⟩ := hrel
          have HI2 := Lib.hid hI
          have HEND := Lib.hid hend
          have HFL := Lib.hid hfl
          clear hI hend hfl HI HST
          have hsz : w.heap.size + 1 ≤ wr.heap.size := by have := hst.bb.lt; have := hst.gbl; omega
          have hbw : Below w.heap.size w wr := (bone w _).trans (hst.below.mono (by omega))
          by_cases hlt : i < n.trans.length
          · obtain ⟨b, o, t, iv, ov, rfl, hD, hx, hl, hti, hto, c0, c1, c2⟩ := ht.at_ hlt
            obtain ⟨Ai, ci, rfl, i1, i2, hti⟩ := hti.open_
            obtain ⟨Ao, co, rfl, o1, o2, hto⟩ := hto.open_
            replace c0 := (hbw.cell (p := ⟨b, o + i * 3, none⟩) hD).trans c0
            replace c1 := (hbw.cell (p := ⟨b, o + i * 3 + 1, none⟩) hD).trans c1
            replace c2 := (hbw.cell (p := ⟨b, o + i * 3 + 2, none⟩) hD).trans c2
            have HX : Hid ((arcs back n)[i]? = some (arcOf back t)) := by show (arcs back n)[i]? = _; unfold arcs; rw [List.getElem?_map, hx]; rfl
            have htin := HIN.out _ (List.mem_of_getElem? HX.out)
            have hxi : tr'[i]? = some (tr'.getD i false) := by
              have : i < tr'.length := by rw [hst.lt]; exact hlt
              rw [List.getD_eq_getElem?_getD, List.getElem?_eq_getElem this]; rfl
            clear hx
            go_wp2_with fail
            go_quiet (fail)
            generalize hwd : World.drewN _ _ = wd
            have hst1 : RSt (w.alloc (.cells #[.int .i64 (P : Int), .slice (some ⟨b, o, none⟩) n.trans.length c, .int .i64 n.source, .int .i64 n.sink] 24)) wd (w.heap.size + 1) gb gp gt P n.trans.length pl' tr' := by rw [← hwd]; exact (hst.now (bone _ _) hsz).drewN _
            have hti1 : SlI (Lt wd.heap.size) wd (.slice Ai t.ins.length ci) t.ins := hti.now ((bone w _).trans (hst1.below.mono (by omega)))
            have hto1 : SlI (Lt wd.heap.size) wd (.slice Ao t.outs.length co) t.outs := hto.now ((bone w _).trans (hst1.below.mono (by omega)))
            clear hwd hst c0 c1 c2 hD hsz hbw
            have hsz : w.heap.size + 1 ≤ wd.heap.size := by have := hst1.bb.lt; have := hst1.gbl; omega
            have hcx := hst1.ot.cell hxi
            clear hxi
            cases back
            · have htin1 : (∀ q ∈ t.ins, 0 ≤ q ∧ q.toNat < P) ∧ (∀ r ∈ t.outs, 0 ≤ r ∧ r.toNat < P) := htin
              have HX2 : Hid ((arcs false n)[i]? = some (t.ins, t.outs)) := HX.out
              clear HX htin
              cases hti : tr'.getD i false with
              | true =>
                rw [hti] at hcx
                have HTI := Lib.hid hti
                clear hti
                go_wp2_with fail
                go_roundg (n.trans.length - (i + 1))
                case measure => omega
                case rel =>
                  refine ⟨i + 1, ch, pl', tr', by omega, Nat.le_refl _, by go_num, rfl, HFL.out, HI2.out, (fun h j u hj hu => ?_), hst1⟩
                  by_cases e : j = i
                  · subst e; exact .inl HTI.out
                  · exact HEND.out h j u (by omega) hu
              | false =>
                rw [hti] at hcx
                have HTI := Lib.hid hti
                clear hti
                have eg : ∀ args w, (callFunc 42 args).run Tryd.prog w = .ok (.enter 42 args) w := enters_of Tryd.func42 (by kernel_rfl) rfl
                have hbx := hst1.bb.c1
                have HC := Lib.hid (containsFuncI 42 eg #[.pointer (some ⟨gb, 0, none⟩)] _ t.ins (fun p => pl'.getD p.toNat false) wd hti1 (fun x v w1 hx hb _ h => reached1_any x v _ gb pl' w1 h.1 (by rw [hst1.lp]; exact htin1.1 x hx) ((hb.cell (p := ⟨gb, 0, none⟩) hst1.bb.lt).trans hbx) (hst1.slP.now hb)))
                have HAN : Hid ((t.ins.any fun p => pl'.getD p.toNat false) = anyIn pl' t.ins) := rfl
                rw [HAN.out] at HC
                clear eg hbx
                cases han : anyIn pl' t.ins with
                | false =>
                  rw [han] at HC
                  have HNO := Lib.hid han
                  clear han
                  go_wp2_with fail
                  refine HC.out.mono ?_
                  rintro e w2 ⟨rfl, hb2⟩
                  go_wp2_with fail
                  go_roundg (n.trans.length - (i + 1))
                  case measure => omega
                  case rel =>
                    refine ⟨i + 1, ch, pl', tr', by omega, Nat.le_refl _, by go_num, rfl, HFL.out, HI2.out, (fun h j u hj hu => ?_), hst1.now hb2 hsz⟩
                    by_cases e : j = i
                    · subst e; rw [HX2.out] at hu; injection hu with hu; subst hu; exact .inr HNO.out
                    · exact HEND.out h j u (by omega) hu
                | true =>
                  rw [han] at HC
                  have HIN2 := Lib.hid (HI2.out.step HIN.out HX2.out han)
                  have HFS := Lib.hid (falses_set tr' i (by rw [hst1.lt]; exact hlt) HTI.out)
                  clear han
                  go_wp2_with fail
                  refine HC.out.mono ?_
                  rintro e w2 ⟨rfl, hb2⟩
                  have hst2 := hst1.now hb2 hsz
                  have hto2 := hto1.now hb2
                  have hcx2 := hst2.ot.cell (k := i) (x := false) (by
                    have : i < tr'.length := by rw [hst2.lt]; exact hlt
                    have h' := HTI.out
                    rw [List.getD_eq_getElem?_getD, List.getElem?_eq_getElem this] at h'
                    rw [List.getElem?_eq_getElem this]
                    exact congrArg some h')
                  have hfz2 := hst2.ot.frozen i
                  have hst3 := hst2.setT i
                  clear hst1 hcx hb2 hsz HC hti1 hto1 hto2
                  go_wp2_with fail
                  clear hcx2 hfz2
                  obtain ⟨wi, rfl⟩ : ∃ wi : World, wi = wr := ⟨_, rfl⟩
                  go_loopg [58] t.outs.length (fun gg s58 wr => ∃ j : Nat, j ≤ t.outs.length ∧ t.outs.length - j ≤ gg ∧ s58 = .int .i64 j ∧ RSt (w.alloc (.cells #[.int .i64 (P : Int), .slice (some ⟨b, o, none⟩) n.trans.length c, .int .i64 n.source, .int .i64 n.sink] 24)) wr (w.heap.size + 1) gb gp gt P n.trans.length (setAll pl' (t.outs.take j)) (tr'.set i true))
                  case atStart => exact ⟨0, Nat.zero_le _, by omega, rfl, hst3⟩
                  case round =>
                    obtain ⟨j, hj, hg3, rfl, hstr⟩ := hrel
                    by_cases hltj : j < t.outs.length
                    · obtain ⟨b1, o1_, p, rfl, hD1, hx1, hf1, d1⟩ := (hto.now ((bone w _).trans (hstr.below.mono (by omega)))).at_ hltj
                      obtain ⟨hp0, hp1⟩ := htin1.2 p (List.mem_of_getElem? hx1)
                      obtain ⟨y, rfl⟩ := Int.eq_ofNat_of_zero_le hp0
                      rw [Int.toNat_natCast] at hp1
                      have HS : Hid (setAll pl' (t.outs.take (j + 1)) = (setAll pl' (t.outs.take j)).set y true) := setAll_snoc pl' t.outs j _ hx1
                      have hyl : y < (setAll pl' (t.outs.take j)).length := by rw [hstr.lp]; exact hp1
                      have hcy := hstr.op.cell (List.getElem?_eq_getElem hyl)
                      have hfy := hstr.op.frozen y
                      have hbx := hstr.bb.c1
                      generalize (setAll pl' (t.outs.take j))[y] = old at hcy
                      clear hx1 hf1 hD1 hyl
                      go_wp2_with fail
                      go_roundg (t.outs.length - (j + 1))
                      case measure => omega
                      case rel =>
                        refine ⟨j + 1, by omega, Nat.le_refl _, by go_num, ?_⟩
                        rw [HS.out]
                        exact hstr.setP y
                    · obtain rfl : j = t.outs.length := by omega
                      rw [List.take_of_length_le (Nat.le_refl _)] at hstr
                      go_wp2_with fail
                      go_roundg (n.trans.length - (i + 1))
                      case measure => omega
                      case rel =>
                        refine ⟨i + 1, true, _, _, by omega, Nat.le_refl _, by go_num, rfl, ?_, HIN2.out, (fun h => by cases h), hstr⟩
                        have := HFS.out
                        have := HFL.out
                        simp
                        omega
            · have htin1 : (∀ q ∈ t.outs, 0 ≤ q ∧ q.toNat < P) ∧ (∀ r ∈ t.ins, 0 ≤ r ∧ r.toNat < P) := htin
              have HX2 : Hid ((arcs true n)[i]? = some (t.outs, t.ins)) := HX.out
              clear HX htin
              cases hti : tr'.getD i false with
              | true =>
                rw [hti] at hcx
                have HTI := Lib.hid hti
                clear hti
                go_wp2_with fail
                go_roundg (n.trans.length - (i + 1))
                case measure => omega
                case rel =>
                  refine ⟨i + 1, ch, pl', tr', by omega, Nat.le_refl _, by go_num, rfl, HFL.out, HI2.out, (fun h j u hj hu => ?_), hst1⟩
                  by_cases e : j = i
                  · subst e; exact .inl HTI.out
                  · exact HEND.out h j u (by omega) hu
              | false =>
                rw [hti] at hcx
                have HTI := Lib.hid hti
                clear hti
                have eg : ∀ args w, (callFunc 42 args).run Tryd.prog w = .ok (.enter 42 args) w := enters_of Tryd.func42 (by kernel_rfl) rfl
                have hbx := hst1.bb.c1
                have HC := Lib.hid (containsFuncI 42 eg #[.pointer (some ⟨gb, 0, none⟩)] _ t.outs (fun p => pl'.getD p.toNat false) wd hto1 (fun x v w1 hx hb _ h => reached1_any x v _ gb pl' w1 h.1 (by rw [hst1.lp]; exact htin1.1 x hx) ((hb.cell (p := ⟨gb, 0, none⟩) hst1.bb.lt).trans hbx) (hst1.slP.now hb)))
                have HAN : Hid ((t.outs.any fun p => pl'.getD p.toNat false) = anyIn pl' t.outs) := rfl
                rw [HAN.out] at HC
                clear eg hbx
                cases han : anyIn pl' t.outs with
                | false =>
                  rw [han] at HC
                  have HNO := Lib.hid han
                  clear han
                  go_wp2_with fail
                  refine HC.out.mono ?_
                  rintro e w2 ⟨rfl, hb2⟩
                  go_wp2_with fail
                  go_roundg (n.trans.length - (i + 1))
                  case measure => omega
                  case rel =>
                    refine ⟨i + 1, ch, pl', tr', by omega, Nat.le_refl _, by go_num, rfl, HFL.out, HI2.out, (fun h j u hj hu => ?_), hst1.now hb2 hsz⟩
                    by_cases e : j = i
                    · subst e; rw [HX2.out] at hu; injection hu with hu; subst hu; exact .inr HNO.out
                    · exact HEND.out h j u (by omega) hu
                | true =>
                  rw [han] at HC
                  have HIN2 := Lib.hid (HI2.out.step HIN.out HX2.out han)
                  have HFS := Lib.hid (falses_set tr' i (by rw [hst1.lt]; exact hlt) HTI.out)
                  clear han
                  go_wp2_with fail
                  refine HC.out.mono ?_
                  rintro e w2 ⟨rfl, hb2⟩
                  have hst2 := hst1.now hb2 hsz
                  have hto2 := hti1.now hb2
                  have hcx2 := hst2.ot.cell (k := i) (x := false) (by
                    have : i < tr'.length := by rw [hst2.lt]; exact hlt
                    have h' := HTI.out
                    rw [List.getD_eq_getElem?_getD, List.getElem?_eq_getElem this] at h'
                    rw [List.getElem?_eq_getElem this]
                    exact congrArg some h')
                  have hfz2 := hst2.ot.frozen i
                  have hst3 := hst2.setT i
                  clear hst1 hcx hb2 hsz HC hti1 hto1 hto2
                  go_wp2_with fail
                  clear hcx2 hfz2
                  obtain ⟨wi, rfl⟩ : ∃ wi : World, wi = wr := ⟨_, rfl⟩
                  go_loopg [58] t.ins.length (fun gg s58 wr => ∃ j : Nat, j ≤ t.ins.length ∧ t.ins.length - j ≤ gg ∧ s58 = .int .i64 j ∧ RSt (w.alloc (.cells #[.int .i64 (P : Int), .slice (some ⟨b, o, none⟩) n.trans.length c, .int .i64 n.source, .int .i64 n.sink] 24)) wr (w.heap.size + 1) gb gp gt P n.trans.length (setAll pl' (t.ins.take j)) (tr'.set i true))
                  case atStart => exact ⟨0, Nat.zero_le _, by omega, rfl, hst3⟩
                  case round =>
                    obtain ⟨j, hj, hg3, rfl, hstr⟩ := hrel
                    by_cases hltj : j < t.ins.length
                    · obtain ⟨b1, o1_, p, rfl, hD1, hx1, hf1, d1⟩ := (hti.now ((bone w _).trans (hstr.below.mono (by omega)))).at_ hltj
                      obtain ⟨hp0, hp1⟩ := htin1.2 p (List.mem_of_getElem? hx1)
                      obtain ⟨y, rfl⟩ := Int.eq_ofNat_of_zero_le hp0
                      rw [Int.toNat_natCast] at hp1
                      have HS : Hid (setAll pl' (t.ins.take (j + 1)) = (setAll pl' (t.ins.take j)).set y true) := setAll_snoc pl' t.ins j _ hx1
                      have hyl : y < (setAll pl' (t.ins.take j)).length := by rw [hstr.lp]; exact hp1
                      have hcy := hstr.op.cell (List.getElem?_eq_getElem hyl)
                      have hfy := hstr.op.frozen y
                      have hbx := hstr.bb.c1
                      generalize (setAll pl' (t.ins.take j))[y] = old at hcy
                      clear hx1 hf1 hD1 hyl
                      go_wp2_with fail
                      go_roundg (t.ins.length - (j + 1))
                      case measure => omega
                      case rel =>
                        refine ⟨j + 1, by omega, Nat.le_refl _, by go_num, ?_⟩
                        rw [HS.out]
                        exact hstr.setP y
                    · obtain rfl : j = t.ins.length := by omega
                      rw [List.take_of_length_le (Nat.le_refl _)] at hstr
                      go_wp2_with fail
                      go_roundg (n.trans.length - (i + 1))
                      case measure => omega
                      case rel =>
                        refine ⟨i + 1, true, _, _, by omega, Nat.le_refl _, by go_num, rfl, ?_, HIN2.out, (fun h => by cases h), hstr⟩
                        have := HFS.out
                        have := HFL.out
                        simp
                        omega
          · obtain rfl : i = n.trans.length := by omega
            have hlen : (arcs back n).length = n.trans.length := by unfold arcs; simp
            go_wp2_with fail
            go_roundg (2 * falses tr' + (if ch then 1 else 0))
            case measure => have := HFL.out; cases ch <;> simp at this ⊢ <;> omega
            case rel =>
              refine ⟨ch, pl', tr', rfl, Nat.le_refl _, HI2.out, (fun h j t ht => HEND.out h j t ?_ ht), hst⟩
              rcases Nat.lt_or_ge j (arcs back n).length with h' | h'
              · omega
              · rw [List.getElem?_eq_none h'] at ht; cases ht
end Go.Proofs.YtlkkfkkhllijbaaDoor
