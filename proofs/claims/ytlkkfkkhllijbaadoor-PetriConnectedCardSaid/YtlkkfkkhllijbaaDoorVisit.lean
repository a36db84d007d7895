/- graph.classes: the search for strong components from one vertex. -/
import Derived.Test.YtlkkfkkhllijbaaDoorGather
import Derived.Test.YtlkkfkkhllijbaaDoorSrch
import Derived.Test.YtlkkfkkhllijbaaDoorTarjanC
import Derived.Deep.CutRange
import Derived.Deep.CutBlock
import Derived.BigQuiet
import Derived.Test.YtlkkfkkhllijbaaDoorSearch
namespace Go.Proofs.YtlkkfkkhllijbaaDoor
open Go.RowKit

def capV (B : SB) : Array Value := #[.pointer (some ⟨B.ct, 0, none⟩), .pointer (some ⟨B.ix, 0, none⟩), .pointer (some ⟨B.lo, 0, none⟩), .pointer (some ⟨B.st, 0, none⟩), .pointer (some ⟨B.nx, 0, none⟩), .pointer (some ⟨B.vi, 0, none⟩), .pointer (some ⟨B.cl, 0, none⟩), .pointer (some ⟨B.cc, 0, none⟩)]
def visitV (B : SB) : Value := .func (.func 45) #[] (capV B)
abbrev MemT (w : World) (B : SB) (base N : Nat) (nv sv : Value) (s : TS) : Prop := Mem w B base N 3 28 37 85 nv (visitV B) sv s
theorem unvis_zero {N v : Nat} {s : TS} (hv : v < N) (h0 : s.ix v = 0) : 0 < unvis N s := by
  unfold unvis
  exact List.length_pos_iff.2 (List.ne_nil_of_mem (List.mem_filter.2 ⟨List.mem_range.2 hv, by simpa using h0⟩))
theorem minV (a b : Nat) : Value.int .i64 (if b < a then (b : Int) else (a : Int)) = natV (min a b) := by
  unfold natV
  split
  · rw [Nat.min_eq_right (by omega)]
  · rw [Nat.min_eq_left (by omega)]
theorem inc_len : ∀ (l : List Nat) (a c : Nat), l.Pairwise (· < ·) → (∀ x ∈ l, a ≤ x ∧ x ≤ c) → a ≤ c + 1 → l.length + a ≤ c + 1
  | [], a, c, _, _, h => by simpa using h
  | x :: l, a, c, hp, hx, h => by
    rw [List.pairwise_cons] at hp
    have h1 := hx x (by simp)
    have := inc_len l (x + 1) c hp.2 (fun y hy => ⟨hp.1 y hy, (hx y (by simp [hy])).2⟩) (by omega)
    rw [List.length_cons]
    omega
theorem TInv.short {next : Nat → List Nat} {N : Nat} {s : TS} (h : TInv next N s) : s.stack.length ≤ s.count + 1 := by
  have h1 : (s.stack.map s.ix).Pairwise (· < ·) := List.pairwise_map.2 h.nd
  have := inc_len (s.stack.map s.ix) 0 s.count h1 (fun x hx => by
    obtain ⟨y, hy, rfl⟩ := List.mem_map.1 hx
    exact ⟨Nat.zero_le _, h.ct y (h.bd y hy)⟩) (by omega)
  rw [List.length_map] at this
  omega
theorem rows_at {w : World} {base G N : Nat} {rows : List (List Int)} {r : List Int} {v : Nat} (h : SlII (Lt base) w (.slice (some ⟨G, 0, none⟩) N N) rows) (hv : v < N) (hr : rows[v]? = some r) :
    ∃ A c, w.cell? ⟨G, v, none⟩ = some (.slice A r.length c) ∧ SlI (Lt base) w (.slice A r.length c) r := by
  obtain ⟨b, o, x, u, hA, hD, hx, hR, hc⟩ := Sl.at1 h hv
  injection hA with hA
  injection hA with e1 e2 _
  subst e1 e2
  obtain ⟨v', hv', hs⟩ := hR
  injection hv' with hv' _
  subst hv'
  obtain rfl : r = x := Option.some.inj (hr.symm.trans hx)
  obtain ⟨A, c, rfl, _, _, hs⟩ := hs.open_
  refine ⟨A, c, ?_, hs⟩
  rw [← hc, Nat.zero_add]
section
variable {w w' : World} {B : SB} {base N : Nat} {nv sv : Value} {s : TS}
theorem Mem.drew (h : MemT w B base N nv sv s) : MemT w.drew B base N nv sv s := h.now (Below.refl _ _).drew
theorem Mem.ixAt (h : MemT w B base N nv sv s) (hl : s.index.length = N) {x : Nat} (hx : x < N) : w.cell? ⟨B.gi, x, none⟩ = some (.int .i64 (s.ix x : Int)) := by
  have := h.gi.cell (k := x) (x := s.ix x) (by unfold TS.ix; rw [List.getD_eq_getElem?_getD, List.getElem?_eq_getElem (by omega)]; rfl)
  exact this
theorem Mem.lwAt (h : MemT w B base N nv sv s) (hl : s.low.length = N) {x : Nat} (hx : x < N) : w.cell? ⟨B.gl, x, none⟩ = some (.int .i64 (s.lw x : Int)) := by
  have := h.gl.cell (k := x) (x := s.lw x) (by unfold TS.lw; rw [List.getD_eq_getElem?_getD, List.getElem?_eq_getElem (by omega)]; rfl)
  exact this
theorem Mem.clAt (h : MemT w B base N nv sv s) (hl : s.cls.length = N) {x : Nat} (hx : x < N) : w.cell? ⟨B.gc, x, none⟩ = some (.int .i64 (s.cl x)) := by
  have := h.gc.cell (k := x) (x := s.cl x) (by unfold TS.cl; rw [List.getD_eq_getElem?_getD, List.getElem?_eq_getElem (by omega)]; rfl)
  exact this
theorem Mem.stMid (h : MemT w B base N nv sv s) (hg : w.grownBy w' sv.ownBlock) : Blk w' B.st 28 #[sv] :=
  h.st.grown hg fun e => by have h1 := h.far _ e.symm; have h2 := h.ok.le 7 (by decide); exact absurd h1 (Nat.not_lt.2 h2)
theorem Mem.svForm (h : MemT w B base N nv sv s) : ∃ A c, sv = .slice A s.stack.length c := by
  rcases h.row.2 with ⟨e, e0⟩ | ⟨g, c, cur, e, _⟩
  · exact ⟨none, 0, by rw [e, e0]⟩
  · exact ⟨_, _, e⟩
theorem Mem.pushBelow (h : MemT w B base N nv sv s) (hfr : ∀ i, i < 11 → base ≤ B.at_ i) (hg : w.grownBy w' sv.ownBlock) (u : Value) : Below base w (w'.setCell ⟨B.st, 0, none⟩ u) := by
  have hlt : base ≤ w.heap.size := Nat.le_trans (hfr 7 (by decide)) (Nat.le_of_lt h.st.lt)
  exact Below.setCell (p := ⟨B.st, 0, none⟩) (below_of_grown hg hlt fun g hgg => (h.row.lt g hgg).1) (hfr 7 (by decide)) u
end

set_option maxHeartbeats 8000000 in
set_option maxRecDepth 100000 in
theorem visit_any {next : Nat → List Nat} {N : Nat} (B : SB) (base : Nat) (nv : Value) (rows : List (List Int)) (hN : ∀ x, x < N → ∀ y ∈ next x, y < N) (hN2 : N ≤ 1000) (hfr : ∀ i, i < 11 → base ≤ B.at_ i)
    (hrl : rows.length = N) (hrow : ∀ v, v < N → rows[v]? = some ((next v).map fun (x : Nat) => (x : Int))) (Gn : Nat) (hnv : nv = .slice (some ⟨Gn, 0, none⟩) N N) :
    ∀ (f v : Nat) (s : TS) (sv : Value) (w : World), MemT w B base N nv sv s → SlII (Lt base) w nv rows → TInv next N s → Cnt N s → v < N → s.ix v = 0 → unvis N s ≤ f →
      Calls Tryd.prog 45 (#[.int .i64 (v : Int)] ++ capV B) w fun e w' => e = .returned (.tuple #[]) ∧ (∃ sv', MemT w' B base N nv sv' (visit next f v s)) ∧ Below base w w' := by
  intro f
  induction f with
  | zero => intro v s sv w _ _ _ _ hv h0 hu; have := unvis_zero hv h0; omega
  | succ f ih =>
    intro v s sv w hM hrows hI hC hv h0 hu
    have IH := Lib.hid ih
    have HI := Lib.hid hI
    have HC := Lib.hid hC
    have HU := Lib.hid hu
    have H0 := Lib.hid h0
    clear ih hI hC hu h0
    have hcnt : s.count ≤ 1000 := by have := HC.out.ct; omega
    have HEL := Lib.hid (edges_loop (f := f) hN HI.out HC.out hv H0.out HU.out)
    unfold capV
    go_enter Tryd.func45, Tryd.ntmps45
    have a0 := hM.ct.c1
    have f0 := hM.ct.frozen 0
    go_upto_region 1 with fail
    have hM1 := hM.setCt (s.count + 1)
    have hb1 : Below base w (w.setCell ⟨B.ct, 0, none⟩ (natV (s.count + 1))) := (Below.refl _ _).setCell (p := ⟨B.ct, 0, none⟩) (hfr 8 (by decide)) _
    have hwe : w.setCell ⟨B.ct, 0, none⟩ (.int .i64 ((s.count : Int) + 1)) = w.setCell ⟨B.ct, 0, none⟩ (natV (s.count + 1)) := rfl
    rw [hwe]
    generalize hw1 : w.setCell ⟨B.ct, 0, none⟩ (natV (s.count + 1)) = w1 at *
    clear hw1 hwe a0 f0
    have a1 := hM1.ix.c1
    have a2 := hM1.lo.c1
    have a3 := hM1.ct.c1
    have a4 := hM1.ixAt HI.out.li hv
    have a5 := hM1.lwAt HI.out.ll hv
    have f4 := hM1.gi.frozen v
    have f5 := hM1.gl.frozen v
    have v1 : (0 : Int) ≤ (v : Int) := by omega
    have v2 : (v : Int) < (N : Int) := by omega
    have hM2 : MemT (w1.setCell ⟨B.gi, v, none⟩ (.int .i64 ((s.count : Int) + 1))) B base N nv sv _ := hM1.setIx v (s.count + 1)
    have b1 := hM2.ix.c1
    have b2 := hM2.lo.c1
    have b3 := hM2.ct.c1
    have b5 := hM2.lwAt HI.out.ll hv
    have g5 := hM2.gl.frozen v
    go_region
    have hM3 : MemT ((w1.setCell ⟨B.gi, v, none⟩ (.int .i64 ((s.count : Int) + 1))).setCell ⟨B.gl, v, none⟩ (.int .i64 ((s.count : Int) + 1))).drew B base N nv sv _ := (hM2.setLow v (s.count + 1)).drew
    have hb3 : Below base w ((w1.setCell ⟨B.gi, v, none⟩ (.int .i64 ((s.count : Int) + 1))).setCell ⟨B.gl, v, none⟩ (.int .i64 ((s.count : Int) + 1))).drew :=
      ((hb1.setCell (p := ⟨B.gi, v, none⟩) hM1.gi.from_ _).setCell (p := ⟨B.gl, v, none⟩) hM1.gl.from_ _).drew
    generalize hw3 : ((w1.setCell ⟨B.gi, v, none⟩ (.int .i64 ((s.count : Int) + 1))).setCell ⟨B.gl, v, none⟩ (.int .i64 ((s.count : Int) + 1))).drew = w3 at *
    clear hw3 a1 a2 a3 a4 a5 f4 f5 b1 b2 b3 b5 g5 hM1 hM2 hM hb1
    have hsl : s.stack.length ≤ 1001 := by have := HI.out.short; omega
    have hbase : base ≤ w3.heap.size := Nat.le_trans (hfr 7 (by decide)) (Nat.le_of_lt hM3.st.lt)
    obtain ⟨A, c, rfl⟩ := hM3.svForm
    have a1 := hM3.st.c1
    have f1 := hM3.st.frozen 0
    go_wp2_with (at_builtin; refine wpList_push appInts' rfl (.tmp 23) (.tmp 25) rfl w3 [.int .i64 (v : Int)] rfl (by simp [Value.oneCell']) _ s.stack.length (s.stack.map natV) rfl hM3.row rfl (by omega) hbase ?_; intro v' w' hown' hgr hat; generalize hW : @wpList = WL)
    subst hW
    obtain ⟨g', cap', rfl, _, _⟩ := World.ownsRow.form hown' (by omega)
    have hM4 := hM3.push (v := v) hown' hgr hat
    have hb4 := hb3.trans ((hM3.pushBelow hfr hgr (.slice (some ⟨g', 0, none⟩) (s.stack.length + 1) cap')).mono (Nat.le_refl _))
    have m1 := (hM3.stMid hgr).c1
    have m2 := (hM3.stMid hgr).frozen 0
    clear a1 f1 hM3 hb3 hown' hgr hat
    go_upto_region 3 with fail
    generalize hw4 : w'.setCell ⟨B.st, 0, none⟩ (.slice (some ⟨g', 0, none⟩) (s.stack.length + 1) cap') = w4 at *
    clear hw4 m1 m2
    have hE0 : MemT w4 B base N nv (.slice (some ⟨g', 0, none⟩) (s.stack.length + 1) cap') (edgesTo next f v s 0) := hM4
    clear hM4
    subst hnv
    obtain ⟨Ar, cr, a1, hrow4⟩ := rows_at (Sl.below hrows RRow.kept hb4 (Nat.le_refl _)) hv (hrow v hv)
    have a2 := hE0.nx.c1
    have HLEN : Hid (((next v).map fun (x : Nat) => (x : Int)).length = (next v).length) := List.length_map _
    rw [HLEN.out] at a1 hrow4
    generalize hln : (next v).length = ln at *
    go_wp2_with fail
    have HEA := Lib.hid (fun k h => edges_all (next := next) (f := f) (v := v) (s := s) (k := k) h)
    have hcap : ln ≤ 9223372036854775807 := by
      obtain ⟨_, _, h0, h1, h2, _⟩ := hrow4.open_
      have h3 := HLEN.out
      omega
    clear a1 a2
    go_loopw [32] (fun i wr => ∃ (k : Nat) (sv : Value), k ≤ ln ∧ i = .int .i64 k ∧ MemT wr B base N (.slice (some ⟨Gn, 0, none⟩) N N) sv (edgesTo next f v s k) ∧ Below base w wr ∧ Below base w4 wr) (fun i _ => ln - (intOf i).toNat)
    case atStart => exact ⟨0, _, Nat.zero_le _, rfl, hE0, hb4, Below.refl _ _⟩
    case round =>
      obtain ⟨k, sv, hk, rfl, hMk, hbk, hbk4⟩ := hrel
      obtain ⟨hTL, hCk, huk, hck⟩ := HEL.out k (by omega)
      have hIk := hTL.inv
      have HTL := Lib.hid hTL
      have HIK := Lib.hid hIk
      have HCK := Lib.hid hCk
      have HUK := Lib.hid huk
      have hcnk : (edgesTo next f v s k).count ≤ 1000 := by have := hCk.ct; omega
      have hcck : (edgesTo next f v s k).cc ≤ 1000 := by omega
      clear hTL hIk hCk huk hck hE0
      by_cases hlt : k < ln
      · have hrowk := Sl.below hrow4 RInt.kept hbk4 (Nat.le_refl _)
        obtain ⟨br, orr, z, hAe, hD, hx, hf, c0⟩ := SlI.at_ hrowk hlt
        subst hAe
        rw [List.getElem?_map] at hx
        obtain ⟨y, hy, rfl⟩ := Option.map_eq_some_iff.1 hx
        have hyN : y < N := hN v hv y (List.mem_of_getElem? hy)
        have HY := Lib.hid hy
        clear hx hy hf
        have a3 : (0 : Int) ≤ (k : Int) := by omega
        have a4 : (k : Int) < (ln : Int) := by omega
        have y1 : (0 : Int) ≤ (y : Int) := by omega
        have y2 : (y : Int) < (N : Int) := by omega
        have HES := Lib.hid (edges_succ (next := next) (f := f) (v := v) (s := s) HY.out)
        generalize hsk : edgesTo next f v s k = sk at *
        have b1 := hMk.ix.c1
        have b2 := hMk.ixAt HIK.out.li hyN
        by_cases hix : sk.ix y = 0
        · have d1 : ((sk.ix y : Int) == 0) = true := by simp [hix]
          have b3 := hMk.vi.c1
          unfold visitV at b3
          have eg : ∀ args w, (callFunc 45 args).run Tryd.prog w = .ok (.enter 45 args) w := enters_of Tryd.func45 (by kernel_rfl) rfl
          have HPO := Lib.hid (visit_post hN f y sk HIK.out hyN hix HUK.out)
          have HE1 : Hid (edgesTo next f v s (k + 1) = (visit next f y sk).setLow v (min ((visit next f y sk).lw v) ((visit next f y sk).lw y))) := by
            show _ = _
            rw [HES.out]; unfold edgeF; rw [if_pos hix]
          have hrk := Sl.below hrows RRow.kept hbk (Nat.le_refl _)
          have HCALL := Lib.hid (IH.out y sk sv wr hMk hrk HIK.out HCK.out hyN hix HUK.out)
          clear hix
          go_wp2_with (go_at_fn 45; refine HCALL.out.mono ?_; rintro e w5 ⟨rfl, ⟨sv5, hM5⟩, hb5⟩; generalize hW : @wpList = WL)
          subst hW
          have HI5 := Lib.hid HPO.out.inv
          generalize visit next f y sk = s5 at *
          have hbk5 := hbk.trans hb5
          have hbk45 := hbk4.trans hb5
          clear b1 b2 b3 d1 hMk hrk hb5
          have b1 := hM5.lo.c1
          have b2 := hM5.lwAt HI5.out.ll hv
          have b3 := hM5.lwAt HI5.out.ll hyN
          have f2 := hM5.gl.frozen v
          go_upto_region 8 with fail
          go_region
          have hM6 : MemT ((w5.setCell ⟨B.gl, v, none⟩ (natV (min (s5.lw v) (s5.lw y)))).drew) B base N (.slice (some ⟨Gn, 0, none⟩) N N) sv5 _ := (hM5.setLow v (min (s5.lw v) (s5.lw y))).drew
          have hbs : Below base w5 ((w5.setCell ⟨B.gl, v, none⟩ (natV (min (s5.lw v) (s5.lw y)))).drew) := ((Below.refl _ _).setCell (p := ⟨B.gl, v, none⟩) hM5.gl.from_ _).drew
          rw [minV]
          rw [← HE1.out] at hM6
          have hbk6 := hbk5.trans hbs
          have hbk46 := hbk45.trans hbs
          clear b1 b2 b3 f2 hM5 hbs hbk5 hbk45
          generalize hw6 : (w5.setCell ⟨B.gl, v, none⟩ (natV (min (s5.lw v) (s5.lw y)))).drew = w6 at *
          clear hw6
          go_wp2_with fail
          go_roundw
          case rel => exact ⟨k + 1, _, by omega, by go_num, hM6, hbk6, hbk46⟩
          case measure => simp [intOf]; omega
        · have d1 : ((sk.ix y : Int) == 0) = false := by simp [hix]
          have b3 := hMk.cl.c1
          have b4 := hMk.clAt HIK.out.lc hyN
          by_cases hcl : sk.cl y < 0
          · have HE1 : Hid (edgesTo next f v s (k + 1) = sk.setLow v (min (sk.lw v) (sk.ix y))) := by
              show _ = _
              rw [HES.out]; unfold edgeF; rw [if_neg hix, if_pos hcl]
            have d2 : decide (sk.cl y < 0) = true := by simpa using hcl
            clear hix hcl
            have b5 := hMk.lo.c1
            have b6 := hMk.lwAt HIK.out.ll hv
            have f6 := hMk.gl.frozen v
            go_upto_region 10 with fail
            go_region
            have hM6 : MemT ((wr.setCell ⟨B.gl, v, none⟩ (natV (min (sk.lw v) (sk.ix y)))).drew) B base N (.slice (some ⟨Gn, 0, none⟩) N N) sv _ := (hMk.setLow v (min (sk.lw v) (sk.ix y))).drew
            have hbs : Below base wr ((wr.setCell ⟨B.gl, v, none⟩ (natV (min (sk.lw v) (sk.ix y)))).drew) := ((Below.refl _ _).setCell (p := ⟨B.gl, v, none⟩) hMk.gl.from_ _).drew
            rw [minV]
            rw [← HE1.out] at hM6
            have hbk6 := hbk.trans hbs
            have hbk46 := hbk4.trans hbs
            clear b1 b2 b3 b4 b5 b6 f6 hMk hbs hbk hbk4 d1 d2
            generalize hw6 : (wr.setCell ⟨B.gl, v, none⟩ (natV (min (sk.lw v) (sk.ix y)))).drew = w6 at *
            clear hw6
            go_wp2_with fail
            go_roundw
            case rel => exact ⟨k + 1, _, by omega, by go_num, hM6, hbk6, hbk46⟩
            case measure => simp [intOf]; omega
          · have HE1 : Hid (edgesTo next f v s (k + 1) = sk) := by
              show _ = _
              rw [HES.out]; unfold edgeF; rw [if_neg hix, if_neg hcl]
            have d2 : decide (sk.cl y < 0) = false := by simpa using hcl
            clear hix hcl
            rw [← HE1.out] at hMk
            go_wp2_with fail
            go_roundw
            case rel => exact ⟨k + 1, _, by omega, by go_num, hMk, hbk, hbk4⟩
            case measure => simp [intOf]; omega
      · obtain rfl : k = ln := by omega
        have HV := Lib.hid (HEA.out k (by omega))
        obtain ⟨rest, hst, hrv, hrx⟩ := HTL.out.st
        have HMEM : Hid (v ∈ (edgesTo next f v s k).stack) := by show _ ∈ _; rw [hst]; simp
        clear hst hrv hrx HTL
        generalize hsk : edgesTo next f v s k = sk at *
        have b1 := hMk.lo.c1
        have b2 := hMk.ix.c1
        have b3 := hMk.lwAt HIK.out.ll hv
        have b4 := hMk.ixAt HIK.out.li hv
        go_upto_region 12 with fail
        by_cases hlow : sk.lw v < sk.ix v
        · have HF : Hid (sk.finish v = sk) := by show _ = _; unfold TS.finish; rw [if_pos hlow]
          have d1 : ((sk.lw v : Int) < (sk.ix v : Int)) := by omega
          clear hlow
          go_region
          go_wp2_with fail
          refine bodyPost_ret (v := .tuple #[]) (by simp [results, Tryd.results45]) rfl ?_
          exact ⟨rfl, ⟨_, by rw [HV.out, HF.out]; exact hMk.drew⟩, hbk.drew⟩
        · have HF : Hid (sk.finish v = sk.pop v) := by show _ = _; unfold TS.finish; rw [if_neg hlow]
          have d1 : ¬ ((sk.lw v : Int) < (sk.ix v : Int)) := by omega
          clear hlow
          go_region
          obtain ⟨R, hR⟩ : ∃ R, popTo v sk.cc sk.stack.reverse sk.cls = R := ⟨_, rfl⟩
          have HPOP : Hid (sk.pop v = { sk with stack := R.1.reverse, cls := R.2, cc := sk.cc + 1 }) := by show _ = _; unfold TS.pop; rw [hR]
          have HR := Lib.hid hR
          have hM5 : MemT wr.drew B base N (.slice (some ⟨Gn, 0, none⟩) N N) sv { sk with stack := sk.stack, cls := sk.cls } := hMk.drew
          have hb5 : Below base w wr.drew := hbk.drew
          have HBD := Lib.hid HIK.out.bd
          clear hR b1 b2 b3 b4 d1 hMk hbk hbk4 HEA hrows hb4 hrow4 HEL
          generalize hw5 : wr.drew = w5 at *
          clear hw5
          go_wp2_with fail
          go_loopg [] sk.stack.length (fun gg w9 => ∃ (st : List Nat) (cls : List Int) (sv : Value), cls.length = N ∧ st.length ≤ gg ∧ v ∈ st ∧ popTo v sk.cc st.reverse cls = R ∧ MemT w9 B base N (.slice (some ⟨Gn, 0, none⟩) N N) sv { sk with stack := st, cls := cls } ∧ (∀ x ∈ st, x < N) ∧ Below base w w9)
          case atStart => exact ⟨sk.stack, sk.cls, sv, HIK.out.lc, Nat.le_refl _, HMEM.out, HR.out, hM5, HBD.out, hb5⟩
          case round =>
            obtain ⟨st, cls, sv9, hcl, hgg, hvs, hpop, hM9, hbd, hb9⟩ := hrel
            clear hM5 hb5
            obtain ⟨st', x, rfl⟩ : ∃ (st' : List Nat) (x : Nat), st = st' ++ [x] := ⟨st.dropLast, st.getLast (by intro e; rw [e] at hvs; cases hvs), (List.dropLast_concat_getLast _).symm⟩
            have hxN : x < N := hbd x (by simp)
            have hrow9 : wr.ownsRow base 3 1 sv9 (st'.length + 1) (st'.map natV ++ [natV x]) := by simpa using hM9.row
            have hfar9 := hM9.far
            obtain ⟨g9, c9, rfl, hc1, hc2, hown9, hcell9⟩ := own_pop hrow9
            unfold natV at hcell9
            have hM9l : (st' ++ [x]).length = st'.length + 1 := by simp
            have a1 := hM9.st.c1
            have f1 := hM9.st.frozen 0
            have hc3 : c9 ≤ 9223372036854775807 := hc2
            generalize hn9 : st'.length = n9 at *
            have i1 : (0 : Int) ≤ (n9 : Int) := by omega
            have i2 : (n9 : Int) < ((n9 + 1 : Nat) : Int) := by omega
            have i3 : ((n9 + 1 : Nat) : Int) - 1 = (n9 : Int) := by omega
            go_upto_region 15 with fail
            have hM10 : MemT (wr.setCell ⟨B.st, 0, none⟩ (.slice (some ⟨g9, 0, none⟩) n9 c9)) B base N (.slice (some ⟨Gn, 0, none⟩) N N) (.slice (some ⟨g9, 0, none⟩) n9 c9) { sk with stack := st', cls := cls } :=
              hM9.setSt (l := st') (by rw [hn9]; exact hown9) hfar9
            have hb10 : Below base w (wr.setCell ⟨B.st, 0, none⟩ (.slice (some ⟨g9, 0, none⟩) n9 c9)) := hb9.setCell (p := ⟨B.st, 0, none⟩) (hfr 7 (by decide)) _
            clear a1 f1 hM9 hb9 hrow9 hcell9 hown9 hM9l i1 i2 i3
            generalize hw10 : wr.setCell ⟨B.st, 0, none⟩ (.slice (some ⟨g9, 0, none⟩) n9 c9) = w10 at *
            clear hw10
            have a1 := hM10.cl.c1
            have a2 := hM10.cc.c1
            have f1 := hM10.gc.frozen x
            have a3 := hM10.clAt hcl hxN
            have x1 : (0 : Int) ≤ (x : Int) := by omega
            have x2 : (x : Int) < (N : Int) := by omega
            go_upto_region 16 with fail
            have hM11 : MemT (w10.setCell ⟨B.gc, x, none⟩ (.int .i64 (sk.cc : Int))) B base N (.slice (some ⟨Gn, 0, none⟩) N N) (.slice (some ⟨g9, 0, none⟩) n9 c9) { sk with stack := st', cls := cls.set x (sk.cc : Int) } := hM10.setCls x (sk.cc : Int)
            have hb11 : Below base w (w10.setCell ⟨B.gc, x, none⟩ (.int .i64 (sk.cc : Int))) := hb10.setCell (p := ⟨B.gc, x, none⟩) hM10.gc.from_ _
            clear a1 a2 a3 f1 hM10 hb10
            generalize hw11 : w10.setCell ⟨B.gc, x, none⟩ (.int .i64 (sk.cc : Int)) = w11 at *
            clear hw11
            by_cases hxv : x = v
            · subst hxv
              have HP2 : Hid (sk.pop x = { sk with stack := st', cls := cls.set x (sk.cc : Int), cc := sk.cc + 1 }) := by
                show _ = _
                rw [HPOP.out, ← hpop]
                rw [List.reverse_append, List.reverse_singleton, List.singleton_append, popTo, if_pos rfl, List.reverse_reverse]
              have d1 : ((x : Int) == (x : Int)) = true := by simp
              have a1 := hM11.cc.c1
              have f1 := hM11.cc.frozen 0
              go_wp2_with fail
              go_end0
              exact ⟨rfl, ⟨_, by rw [HV.out, HF.out, HP2.out]; exact hM11.setCc (sk.cc + 1)⟩, hb11.setCell (p := ⟨B.cc, 0, none⟩) (hfr 9 (by decide)) _⟩
            · have d1 : ((x : Int) == (v : Int)) = false := by rw [beq_eq_false_iff_ne]; omega
              have HPN : Hid (popTo v sk.cc st'.reverse (cls.set x (sk.cc : Int)) = R) := by
                show _ = _
                rw [← hpop, List.reverse_append, List.reverse_singleton, List.singleton_append, popTo, if_neg hxv]
              have hvs' : v ∈ st' := by
                rcases List.mem_append.1 hvs with h | h
                · exact h
                · exact absurd (List.mem_singleton.1 h).symm hxv
              clear hpop
              go_wp2_with fail
              go_roundg n9
              case rel => exact ⟨st', cls.set x (sk.cc : Int), _, by rw [List.length_set]; exact hcl, by rw [hn9]; exact Nat.le_refl _, hvs', HPN.out, hM11, fun y hy => hbd y (by simp [hy]), hb11⟩
              case measure => simp at hgg; omega
end Go.Proofs.YtlkkfkkhllijbaaDoor
