/- Merged texts. -/
import Derived.Test.YtlmenhjlgmejkaaGreatDoorPl19
set_option linter.all false
namespace Go.Proofs.YtlmenhjlgmejkaaGreatDoor
open Go.RowKit
theorem backD_stable (mv : List Mv) : ∀ (k f : Nat), k ≤ f → backD mv f k = backD mv k k := by
  intro k
  induction k using Nat.strongRecOn with
  | _ k ih =>
    intro f hf
    cases k with
    | zero => cases f <;> simp [backD]
    | succ k =>
      cases f with
      | zero => omega
      | succ f =>
        rw [backD, backD, if_neg (by omega), if_neg (by omega)]
        cases hb : byM mv (k + 1) with
        | none => rfl
        | some m =>
          have hm := (byM_some hb).2.2
          show m.sym :: backD mv f m.src = m.sym :: backD mv k m.src
          rw [ih m.src hm f (by omega), ih m.src hm k (by omega)]
def mv0 : Mv := ⟨0, 0, 0⟩
theorem backD_step (mv : List Mv) {k : Nat} (hk : 0 < k) : backD mv k k = ((byM mv k).getD mv0).sym :: backD mv ((byM mv k).getD mv0).src ((byM mv k).getD mv0).src := by
  cases k with
  | zero => omega
  | succ k =>
    rw [backD, if_neg (by omega)]
    cases hb : byM mv (k + 1) with
    | none => rfl
    | some m =>
      have hm := (byM_some hb).2.2
      show m.sym :: backD mv k m.src = m.sym :: backD mv m.src m.src
      rw [backD_stable mv m.src k (by omega)]
theorem byM_src {mv : List Mv} {k : Nat} (hk : 0 < k) : ((byM mv k).getD mv0).src < k := by
  cases hb : byM mv k with
  | none => exact hk
  | some m => exact (byM_some hb).2.2
theorem byM_small {mv : List Mv} (h : ∀ m ∈ mv, SmallM m) (k : Nat) : SmallM ((byM mv k).getD mv0) := by
  cases hb : byM mv k with
  | none => exact ⟨by decide, by decide, by decide⟩
  | some m => exact h m (byM_some hb).1
theorem byM_snoc_yes {a : List Mv} {m : Mv} (h1 : byM a m.dst = none) (h2 : m.src < m.dst) : (fun i => byM (a ++ [m]) i) = fun i => if i = m.dst then some m else byM a i := by
  funext i
  unfold byM at *
  rw [List.find?_append]
  by_cases e : i = m.dst
  · subst e
    rw [h1, if_pos rfl]
    simp [h2]
  · rw [if_neg e]
    have : List.find? (fun x => decide (x.dst = i) && decide (x.src < x.dst)) [m] = none := by simp; exact fun h => absurd h.symm e
    rw [this]
    cases List.find? (fun x => decide (x.dst = i) && decide (x.src < x.dst)) a <;> rfl
theorem byM_snoc_no {a : List Mv} {m : Mv} (h : (byM a m.dst).isSome = true ∨ ¬ m.src < m.dst) : (fun i => byM (a ++ [m]) i) = fun i => byM a i := by
  funext i
  unfold byM at *
  rw [List.find?_append]
  cases hf : List.find? (fun x => decide (x.dst = i) && decide (x.src < x.dst)) a with
  | some x => rfl
  | none =>
    have : List.find? (fun x => decide (x.dst = i) && decide (x.src < x.dst)) [m] = none := by
      rw [List.find?_eq_none]
      intro x hx
      rw [List.mem_singleton] at hx
      subst hx
      intro hp
      simp only [Bool.and_eq_true, decide_eq_true_eq] at hp
      obtain ⟨e, hlt⟩ := hp
      rcases h with h | h
      · subst e; rw [hf] at h; cases h
      · exact h hlt
    rw [this]; rfl
theorem take_snoc' {α : Type} {l : List α} {j : Nat} {x : α} (h : l[j]? = some x) : l.take (j + 1) = l.take j ++ [x] := by
  have hj := lt_of_get h
  rw [List.getElem?_eq_getElem hj] at h
  injection h with h
  rw [List.take_succ_eq_append_getElem hj, h]
def ByM := ByP Tryz.prog 3
section
variable {D : Nat → Prop} {w : World}
theorem SlM.at_ {zs : List Mv} {A : Option Addr} {m c k : Nat} (h : SlM D w (.slice A m c) zs) (hk : k < m) :
    ∃ b o x, A = some ⟨b, o, none⟩ ∧ D b ∧ zs[k]? = some x ∧ SmallM x ∧ w.cell? ⟨b, o + k * 3, none⟩ = some (.int .i64 (x.src : Int)) ∧ w.cell? ⟨b, o + k * 3 + 1, none⟩ = some (.int .i64 (x.dst : Int)) ∧ w.cell? ⟨b, o + k * 3 + 2, none⟩ = some (.int .i64 (x.sym : Int)) := by
  obtain ⟨b, o, x, u0, u1, u2, hA, hD, hx, ⟨hu, hs⟩, h0, h1, h2⟩ := Sl.at3 h hk
  injection hu with e0 hu; injection hu with e1 hu; injection hu with e2 hu
  subst e0 e1 e2
  exact ⟨b, o, x, hA, hD, hx, hs, h0, h1, h2⟩
theorem SlM.now {w w' : World} {u : Value} {zs : List Mv} (h : SlM (Lt w.heap.size) w u zs) (hb : Below w.heap.size w w') : SlM (Lt w'.heap.size) w' u zs := Sl.below h RMv.kept hb hb.size
theorem SlM.open_ {u : Value} {zs : List Mv} (h : SlM D w u zs) : ∃ A c, u = .slice A zs.length c ∧ zs.length ≤ c ∧ c ≤ 9223372036854775807 ∧ SlM D w (.slice A zs.length c) zs := Sl.open_ h
theorem SlM.small {u : Value} {zs : List Mv} (h : SlM D w u zs) : ∀ m ∈ zs, SmallM m := by
  obtain ⟨A, c, rfl, _, _, h⟩ := h.open_
  intro m hm
  obtain ⟨k, hk, rfl⟩ := List.mem_iff_getElem.1 hm
  obtain ⟨b, o, x, _, _, hx, hs, _⟩ := h.at_ hk
  rw [List.getElem?_eq_getElem hk] at hx
  injection hx with hx
  rw [hx]; exact hs
end
def setFrom {α : Type} (xs : List α) : Nat → List α → List α
  | _, [] => xs
  | o, y :: ys => setFrom (xs.set o y) (o + 1) ys
theorem setFrom_get {α : Type} : ∀ (ys : List α) (xs : List α) (o i : Nat), o + ys.length ≤ xs.length → (setFrom xs o ys)[i]? = if o ≤ i ∧ i < o + ys.length then ys[i - o]? else xs[i]?
  | [], xs, o, i, _ => by rw [setFrom, if_neg (by simp)]
  | y :: ys, xs, o, i, h => by
    rw [List.length_cons] at h
    rw [setFrom, setFrom_get ys _ (o + 1) i (by rw [List.length_set]; omega), List.length_cons]
    by_cases h1 : o + 1 ≤ i ∧ i < o + 1 + ys.length
    · rw [if_pos h1, if_pos (by omega)]
      have : i - o = (i - (o + 1)) + 1 := by omega
      rw [this, List.getElem?_cons_succ]
    · rw [if_neg h1]
      by_cases h2 : i = o
      · subst h2
        rw [if_pos (by omega), Nat.sub_self, List.getElem?_cons_zero, List.getElem?_set_self (by omega)]
      · rw [if_neg (by omega), List.getElem?_set_ne (fun e => h2 e.symm)]
theorem setFrom_all {α : Type} (xs ys : List α) (h : ys.length = xs.length) : setFrom xs 0 ys = ys := by
  refine List.ext_getElem? fun i => ?_
  rw [setFrom_get ys xs 0 i (by omega)]
  by_cases hi : i < ys.length
  · rw [if_pos (by omega), Nat.sub_zero]
  · rw [if_neg (by omega), List.getElem?_eq_none (by omega), List.getElem?_eq_none (by omega)]
theorem OwnI.setFrom {base t g cap : Nat} : ∀ (ys xs : List Int) (o : Nat) (w : World), OwnI w base t g cap xs → OwnI (w.setCells g o (ys.map (Value.int .i64))) base t g cap (Go.Proofs.YtlmenhjlgmejkaaGreatDoor.setFrom xs o ys)
  | [], xs, o, w, h => h
  | y :: ys, xs, o, w, h => by
    have h1 := h.set_ o y
    have h2 := OwnI.setFrom ys (xs.set o y) (o + 1) (w.setCell ⟨g, o, none⟩ (.int .i64 y)) h1
    exact h2
theorem below_setCells {B g : Nat} {w : World} : ∀ (vs : List Value) (o : Nat) (w1 : World), Below B w w1 → B ≤ g → Below B w (w1.setCells g o vs)
  | [], _, _, h, _ => h
  | v :: vs, o, w1, h, hg => below_setCells vs (o + 1) _ (h.setCell (p := ⟨g, o, none⟩) hg v) hg
theorem reverseI (g cap base : Nat) (zs : List Int) (w : World) (h : OwnI w base 3 g cap zs) (hl : zs.length ≤ 10000000) :
    Calls Tryz.prog 118 #[.slice (some ⟨g, 0, none⟩) zs.length cap] w fun e w' => e = .returned (.tuple #[]) ∧ OwnI w' base 3 g cap zs.reverse ∧ Below base w w' := by
  refine (Tryz.slices_Reverse_int_cells g 0 zs.length cap zs w (Nat.le_refl _) (by omega) (fun j hj => ?_) (fun j _ => ?_)).mono ?_
  · rw [Nat.zero_add]
    exact h.cell (by rw [List.getElem?_eq_getElem hj, List.getD_eq_getElem?_getD, List.getElem?_eq_getElem hj]; rfl)
  · rw [Nat.zero_add]; exact h.frozen j
  · rintro e w' ⟨rfl, q, rfl⟩
    rw [List.take_of_length_le (Nat.le_refl _)]
    refine ⟨rfl, ?_, below_setCells _ _ _ (below_drewN (Below.refl _ _) q) h.from_⟩
    have := OwnI.setFrom zs.reverse zs 0 (w.drewN q) (h.drewN q)
    rw [setFrom_all _ _ (by simp)] at this
    exact this
set_option maxHeartbeats 4000000 in
set_option maxRecDepth 100000 in
theorem dpath_any (ms : List Mv) (k : Nat) (v : Value) (w : World) (h : SlM (Lt w.heap.size) w v ms) (hk : k ≤ 1000000) (hlm : ms.length ≤ 1000000) :
    Calls Tryz.prog 72 #[v, .int .i64 k] w fun e w' => ∃ v', e = .returned v' ∧ SlI (Lt w'.heap.size) w' v' (pathD ms k) ∧ Below w.heap.size w w' := by
  obtain ⟨A, c, rfl, a1, a2, h⟩ := h.open_
  have HSM := Lib.hid h.small
  have hmm := @run_makeMap Tryz.prog
  have hb := bone w (.map #[] 0)
  have hM : ByM (w.alloc (.map #[] 0)) w.heap.size 0 (fun i => byM (ms.take 0) i) := ByP.made w
  have HZ : ∀ W, (zeroValue 73).run Tryz.prog W = .ok (.agg #[.int .i64 0, .int .i64 0, .int .i64 0]) W := fun W => by kernel_rfl
  have HZZ := Lib.hid HZ
  have hf2 : ∀ (a b c : Int) (W : World), (Instr.field 73 (.agg #[.int .i64 a, .int .i64 b, .int .i64 c]) 2).run Tryz.prog W = .ok (.int .i64 c) W := fun a b c W => by kernel_rfl
  have hf0 : ∀ (a b c : Int) (W : World), (Instr.field 73 (.agg #[.int .i64 a, .int .i64 b, .int .i64 c]) 0).run Tryz.prog W = .ok (.int .i64 a) W := fun a b c W => by kernel_rfl
  clear HZ
  go_enter Tryz.func72, Tryz.ntmps72
  go_upto_region 2 with fail
  generalize hw1 : w.alloc (.map #[] 0) = w1 at *
  clear hw1 hmm
  go_wp2_with fail
  go_loopw [14] (fun i wr => ∃ j : Nat, j ≤ ms.length ∧ i = .int .i64 j ∧ ByM wr w.heap.size j (fun i => byM (ms.take j) i) ∧ Below w.heap.size w wr) (fun i _ => ms.length - (intOf i).toNat)
  case atStart => exact ⟨0, Nat.zero_le _, rfl, hM, hb⟩
  case round =>
    obtain ⟨j, hj, rfl, hM, hbr⟩ := hrel
    have hgl := hM.lt
    by_cases hlt : j < ms.length
    · obtain ⟨b, o, m, rfl, hD, hx, ⟨m1, m2, m3⟩, c0, c1, c2⟩ := (h.now hbr).at_ hlt
      have HT := Lib.hid (take_snoc' hx)
      clear hx
      have hb2 := bone wr (.cells #[.int .i64 (m.src : Int), .int .i64 (m.dst : Int), .int .i64 (m.sym : Int)] 73)
      have hY := Blk.new wr 73 #[.int .i64 (m.src : Int), .int .i64 (m.dst : Int), .int .i64 (m.sym : Int)]
      have hM2 : ByM _ _ _ _ := hM.now hb2
      have hbw2 := bthen hbr hb2
      go_upto_region 5 with fail
      generalize hw2 : wr.alloc (.cells #[.int .i64 (m.src : Int), .int .i64 (m.dst : Int), .int .i64 (m.sym : Int)] 73) = w2 at *
      clear hw2 c0 c1 c2 hb2
      have hlk := ByP.look_ok (t := 175) (e := 73) (w := w2) hM2 Tryz.underlying175 Tryz.underlying3 (HZZ.out w2) (i := m.dst) (by omega)
      unfold mvV at hlk
      obtain ⟨y0, y1, y2⟩ := hY.c3
      generalize hg : ((byM (ms.take j) m.dst).getD ⟨0, 0, 0⟩) = g0 at *
      obtain ⟨g1, g2, g3⟩ := g0
      dsimp only at hlk
      have HG := Lib.hid hg
      clear hg
      have hb3 := bone w2 (.cells #[.int .i64 (g1 : Int), .int .i64 (g2 : Int), .int .i64 (g3 : Int)] 73)
      have hM3 : ByM _ _ _ _ := hM2.now hb3
      have hY3 := hY.now hb3
      have hbw3 := bthen hbw2 hb3
      cases hs : (byM (ms.take j) m.dst).isSome
      · rw [hs] at hlk
        have hnone : byM (ms.take j) m.dst = none := by
          cases hq : byM (ms.take j) m.dst with
          | none => rfl
          | some x => rw [hq] at hs; cases hs
        have HN := Lib.hid hnone
        clear hs hnone
        by_cases hgt : m.src < m.dst
        · have HF := Lib.hid (byM_snoc_yes HN.out hgt)
          go_upto_region 6 with fail
          generalize hw3 : w2.alloc (.cells #[.int .i64 (g1 : Int), .int .i64 (g2 : Int), .int .i64 (g3 : Int)] 73) = w3 at *
          clear hw3 hlk y0 y1 y2 hb3
          obtain ⟨y0, y1, y2⟩ := hY3.c3
          obtain ⟨w4, hrun4, hM4, hg4⟩ := ByP.put (t := 175) (e := 73) hM3 Tryz.underlying175 Tryz.underlying3 (i := m.dst) (by omega) (by unfold maxLen; omega) m
          unfold mvV at hrun4
          have hbw4 : Below w.heap.size w w4 := hbw3.trans (below_of_grown hg4 hbw3.size (fun g hg => by injection hg with hg; omega))
          have hgt' : (m.src : Int) < (m.dst : Int) := by omega
          go_wp2_with fail
          go_roundw
          case rel =>
            refine ⟨j + 1, by omega, by go_num, ?_, hbw4⟩
            rw [HT.out, HF.out]
            exact hM4
          case measure => simp [intOf]; omega
        · have HF := Lib.hid (byM_snoc_no (a := ms.take j) (.inr hgt))
          go_upto_region 6 with fail
          generalize hw3 : w2.alloc (.cells #[.int .i64 (g1 : Int), .int .i64 (g2 : Int), .int .i64 (g3 : Int)] 73) = w3 at *
          clear hw3 hlk y0 y1 y2 hb3
          obtain ⟨y0, y1, y2⟩ := hY3.c3
          have hgt' : ¬ (m.src : Int) < (m.dst : Int) := by omega
          obtain ⟨D, d1, d2⟩ := hM3
          go_wp2_with fail
          go_roundw
          case rel =>
            refine ⟨j + 1, by omega, by go_num, ?_, hbw3⟩
            rw [HT.out, HF.out]
            exact ⟨D, d1.mono (by omega), d2⟩
          case measure => simp [intOf]; omega
      · rw [hs] at hlk
        have HF := Lib.hid (byM_snoc_no (a := ms.take j) (m := m) (.inl hs))
        clear hs
        go_upto_region 6 with fail
        generalize hw3 : w2.alloc (.cells #[.int .i64 (g1 : Int), .int .i64 (g2 : Int), .int .i64 (g3 : Int)] 73) = w3 at *
        clear hw3 hlk y0 y1 y2 hb3
        obtain ⟨D, d1, d2⟩ := hM3
        go_wp2_with fail
        go_roundw
        case rel =>
          refine ⟨j + 1, by omega, by go_num, ?_, hbw3⟩
          rw [HT.out, HF.out]
          exact ⟨D, d1.mono (by omega), d2⟩
        case measure => simp [intOf]; omega
    · obtain rfl : j = ms.length := by omega
      rw [List.take_of_length_le (Nat.le_refl _)] at hM
      go_wp2_with fail
      obtain ⟨wo, hwo⟩ : ∃ z, z = wr := ⟨_, rfl⟩
      subst hwo
      go_loopw [1, 10] (fun tv ov wr => ∃ (t : Nat) (outs : List Nat), tv = .int .i64 t ∧ backD ms k k = outs ++ backD ms t t ∧ outs.length + t ≤ k ∧ (∀ x ∈ outs, x < 1000000) ∧ wr.ownsRow wo.heap.size 3 1 ov outs.length (outs.map fun (x : Nat) => Value.int .i64 (x : Int)) ∧ Below w.heap.size w wr ∧ Below wo.heap.size wo wr) (fun tv _ _ => (intOf tv).toNat)
      case atStart => exact ⟨k, [], rfl, rfl, by simp, fun x hx => by simp at hx, World.ownsRow_nil _ _ _ _, hbr, Below.refl _ _⟩
      case round =>
        obtain ⟨t, outs, rfl, hbk, hlen, hsm, hown, hbr, hbo⟩ := hrel
        have HBK := Lib.hid hbk
        have HSO := Lib.hid hsm
        clear hbk hsm
        have hszo := hbo.size
        by_cases ht : t = 0
        · subst ht
          have HB0 : Hid (backD ms k k = outs) := by show _ = _; rw [HBK.out]; simp [backD]
          have HP : Hid (pathD ms k = (outs.map fun (x : Nat) => (x : Int)).reverse) := by show _ = _; unfold pathD; rw [HB0.out, List.map_reverse]
          have HFT : Hid (∀ z ∈ outs.map fun (x : Nat) => (x : Int), Fit z) := fun z hz => by
            obtain ⟨x, hx, rfl⟩ := List.mem_map.1 hz
            have := HSO.out x hx
            unfold Fit; omega
          have hmm : outs.map (fun (x : Nat) => Value.int .i64 (x : Int)) = (outs.map fun (x : Nat) => (x : Int)).map (Value.int .i64) := by rw [List.map_map]; rfl
          rw [hmm] at hown
          have hll : (outs.map fun (x : Nat) => (x : Int)).length = outs.length := by simp
          generalize outs.map (fun (x : Nat) => (x : Int)) = zs at *
          have hzl : zs.length ≤ 1000000 := by omega
          have HLL := Lib.hid hll
          clear hmm HB0 HBK HSO hll
          rcases Nat.eq_zero_or_pos zs.length with h0 | h0
          · have h00 : zs = [] := List.eq_nil_of_length_eq_zero h0
            have hoz : outs.length = 0 := by have := HLL.out; omega
            rcases hown.2 with ⟨rfl, _⟩ | ⟨g, cap, cur, rfl, _⟩
            · go_wp2_with fail
              refine (Tryz.slices_Reverse_int_empty _ _ _).mono ?_
              rintro e w3 ⟨rfl, rfl⟩
              go_wp2_with fail
              go_ret
              refine ⟨_, rfl, ?_, hbr⟩
              rw [HP.out, h00]
              exact Sl.none_
            · have hsl := SlI.of_own hown HFT.out
              rw [hoz] at hsl ⊢
              clear hoz
              go_wp2_with fail
              refine (Tryz.slices_Reverse_int_empty _ _ _).mono ?_
              rintro e w3 ⟨rfl, rfl⟩
              go_wp2_with fail
              go_ret
              refine ⟨_, rfl, ?_, hbr⟩
              rw [HP.out, h00]
              rw [h00] at hsl
              exact hsl
          · obtain ⟨g, cap, rfl, hcap, hoi⟩ := OwnI.of hown h0
            go_wp2_with fail
            have HRV := reverseI g cap wo.heap.size zs _ hoi (Nat.le_trans hzl (by decide))
            (with_reducible refine HRV.mono ?_)
            rintro e w3 ⟨rfl, hoi3, hb3⟩
            have hsl := hoi3.sl (fun z hz => HFT.out z (List.mem_reverse.1 hz))
            rw [List.length_reverse] at hsl
            go_wp2_with fail
            go_ret
            refine ⟨_, rfl, ?_, hbr.trans (hb3.mono (by have := hM.lt; omega))⟩
            rw [HP.out]
            exact hsl
        · have hst := backD_step ms (k := t) (by omega)
          have hsr := byM_src (mv := ms) (k := t) (by omega)
          have hss := byM_small HSM.out t
          have hMr : ByM _ _ _ _ := hM.now hbo
          have hlk := ByP.look (t := 175) (e := 73) hMr Tryz.underlying175 Tryz.underlying3 (HZZ.out wr) (i := t) (by omega)
          unfold mvV at hlk
          have hmv0 : (byM ms t).getD ⟨0, 0, 0⟩ = (byM ms t).getD mv0 := rfl
          rw [hmv0] at hlk
          generalize hg : (byM ms t).getD mv0 = g0 at *
          obtain ⟨g1, g2, g3⟩ := g0
          obtain ⟨q1, q2, q3⟩ := hss
          dsimp only at hlk hst hsr q1 q2 q3
          have HN : Hid (backD ms k k = (outs ++ [g3]) ++ backD ms g1 g1) := by show _ = _; rw [HBK.out, hst]; simp
          have ht' : ((t : Int) != 0) = true := by simp; omega
          have HG := Lib.hid hg
          clear hst hg hmv0
          go_upto_region 12 with (at_builtin; refine wpList_push appInts rfl (.tmp 41) (.tmp 46) rfl wr [.int .i64 (g3 : Int)] rfl (by simp [Value.oneCell']) _ outs.length (outs.map fun (x : Nat) => Value.int .i64 (x : Int)) rfl hown rfl (by omega) hszo ?_; intro v' w' hown' hgr hat)
          have hbg : Below wo.heap.size wr w' := below_of_grown hgr hszo (fun g hg => (hown.lt g hg).1)
          clear hlk
          have hM2 : ByM w' w.heap.size ms.length (fun i => byM ms i) := ByP.grown hMr hgr (fun e => by have := (hown.lt _ e.symm).1; have := hM.lt; omega)
          have hlk := ByP.look (t := 175) (e := 73) hM2 Tryz.underlying175 Tryz.underlying3 (HZZ.out w') (i := t) (by omega)
          unfold mvV at hlk
          have hg' : (byM ms t).getD ⟨0, 0, 0⟩ = ⟨g1, g2, g3⟩ := HG.out
          rw [hg'] at hlk
          dsimp only at hlk
          clear hg'
          go_wp2_with fail
          go_roundw
          case rel =>
            refine ⟨g1, outs ++ [g3], rfl, HN.out, by simp; omega, fun x hx => ?_, ?_, hbr.trans (hbg.mono (by have := hM.lt; omega)), hbo.trans hbg⟩
            · rcases List.mem_append.1 hx with hx | hx
              · exact HSO.out x hx
              · rw [List.mem_singleton] at hx; omega
            · simpa using hown'
          case measure => simp [intOf]; omega
def RetWh (p : Sp × Int) (w : World) (e : Ending) (w' : World) : Prop := ∃ sv mv, e = .returned (.tuple #[sv, mv, .int .i64 p.2]) ∧ SlSt (Lt w'.heap.size) w' sv p.1.states ∧ SlM (Lt w'.heap.size) w' mv p.1.moves ∧ Below w.heap.size w w'
theorem dwhole_bad {d : DNet} {most : Int} (h : dvalidB d = false) : dwholeE d most = (noSp, 1) := if_pos h
theorem dwhole_limit {d : DNet} {most : Int} (h : dvalidB d = true) (hc : (dexplE d ⟨oneB d.net d.net.source, d.init⟩ most).2 = 0) (hf : (dexplE d ⟨oneB d.net d.net.source, d.init⟩ most).1.full = false) : dwholeE d most = (noSp, 13) := by
  unfold dwholeE; rw [if_neg (by rw [h]; simp), if_pos ⟨hc, hf⟩]
theorem dwhole_ok {d : DNet} {most : Int} (h : dvalidB d = true) (hc : ¬ ((dexplE d ⟨oneB d.net d.net.source, d.init⟩ most).2 = 0 ∧ (dexplE d ⟨oneB d.net d.net.source, d.init⟩ most).1.full = false)) : dwholeE d most = dexplE d ⟨oneB d.net d.net.source, d.init⟩ most := by
  unfold dwholeE; rw [if_neg (by rw [h]; simp), if_neg hc]
set_option maxHeartbeats 4000000 in
set_option maxRecDepth 100000 in
theorem dwhole_any (n : Nat) (d : DNet) (most : Int) (u : Value) (w : World) (h : IsDn n (Lt w.heap.size) w u d) (hl : d.vars.length ≤ 1000000) (ha : Amb w) :
    Calls Tryz.prog 70 #[u, .int .i64 most] w (RetWh (dwholeE d most) w) := by
  have h0 := h
  obtain ⟨At, ct, Ax, cx, iv, Ag, cg, Aw, cw, rfl, dn1, dn2, dn3, dn4, dn5, ⟨t1, t2⟩, ⟨x1, x2⟩, ⟨g1, g2⟩, v1, v2⟩ := h.open_
  clear h dn1 dn2 dn3 dn4 dn5
  have hb := bone w (.cells #[.int .i64 d.net.places, .slice At d.net.trans.length ct, .int .i64 d.net.source, .int .i64 d.net.sink, .slice Ax d.vars.length cx, iv, .slice Ag d.guards.length cg, .slice Aw d.writes.length cw] 30)
  have hB := Blk.new w 30 #[.int .i64 d.net.places, .slice At d.net.trans.length ct, .int .i64 d.net.source, .int .i64 d.net.sink, .slice Ax d.vars.length cx, iv, .slice Ag d.guards.length cg, .slice Aw d.writes.length cw]
  have hd1 := h0.now hb
  have HI := Lib.hid (dinit_any n d _ _ hd1 hl)
  have HID : Hid (dinitE d = if dvalidB d then (⟨oneB d.net d.net.source, d.init⟩, 0) else (noSt, 1)) := rfl
  go_enter Tryz.func70, Tryz.ntmps70
  go_upto_region 1 with fail
  generalize hw1e : w.alloc (.cells #[.int .i64 d.net.places, .slice At d.net.trans.length ct, .int .i64 d.net.source, .int .i64 d.net.sink, .slice Ax d.vars.length cx, iv, .slice Ag d.guards.length cg, .slice Aw d.writes.length cw] 30) = w1 at *
  clear hw1e
  obtain ⟨q0, q1, q2, q3, q4, q5, q6, q7⟩ := hB.c8
  go_wp2_with fail
  refine HI.out.mono ?_
  rintro e w2 ⟨u2, rfl, hu2, hb2⟩
  clear HI q0 q1 q2 q3 q4 q5 q6 q7
  have hbw2 := bthen hb hb2
  have hB2 := hB.now hb2
  have hd2 := hd1.now hb2
  obtain ⟨Am2, cm2, Av2, cv2, rfl, m1, m2, _, _, _⟩ := hu2.open_
  have hb3 := bone w2 (.cells #[.slice Am2 (dinitE d).1.marks.length cm2, .slice Av2 (dinitE d).1.vals.length cv2] 33)
  have hY := Blk.new w2 33 #[.slice Am2 (dinitE d).1.marks.length cm2, .slice Av2 (dinitE d).1.vals.length cv2]
  have hB3 := hB2.now hb3
  have hd3 := hd2.now hb3
  have hm3 := m1.now hb3
  have hv3 := m2.now hb3
  have hbw3 := bthen hbw2 hb3
  go_upto_region 2 with fail
  generalize hw3 : w2.alloc (.cells #[.slice Am2 (dinitE d).1.marks.length cm2, .slice Av2 (dinitE d).1.vals.length cv2] 33) = w3 at *
  clear hw3 hb hb2 hb3 hB hB2 hd1 hd2 hu2 m1 m2
  cases hv : dvalidB d
  · have HR := Lib.hid (dwhole_bad (most := most) hv)
    have HD : Hid (dinitE d = (noSt, 1)) := by show _ = _; rw [HID.out, hv]; rfl
    rw [HD.out]
    clear hv HID
    go_wp2_with fail
    go_ret3
    rw [HR.out]
    exact ⟨_, _, rfl, Sl.none_, Sl.none_, hbw3⟩
  have HD : Hid (dinitE d = (⟨oneB d.net d.net.source, d.init⟩, 0)) := by show _ = _; rw [HID.out, hv]; rfl
  have HV := Lib.hid hv
  rw [HD.out] at hY hm3 hv3 ⊢
  clear hv HID
  dsimp only at hY hm3 hv3 ⊢
  have HDD := HD
  clear HD
  have HX := Lib.hid (dexplore_any n d ⟨oneB d.net d.net.source, d.init⟩ most _ _ w3 hd3 ⟨_, _, rfl, hm3, hv3⟩ hl (ha.now hbw3))
  obtain ⟨q0, q1, q2, q3, q4, q5, q6, q7⟩ := hB3.c8
  obtain ⟨y0, y1⟩ := hY.c2
  go_wp2_with fail
  refine HX.out.mono ?_
  rintro e w4 ⟨sv, mv, rfl, h1, h2, hb4⟩
  have hbw4 := bthen hbw3 hb4
  clear HX q0 q1 q2 q3 q4 q5 q6 q7 y0 y1 hY hm3 hv3 HDD hB3
  by_cases hc : (dexplE d ⟨oneB d.net d.net.source, d.init⟩ most).2 = 0
  · by_cases hf : (dexplE d ⟨oneB d.net d.net.source, d.init⟩ most).1.full = false
    · have HR := Lib.hid (dwhole_limit HV.out hc hf)
      generalize dexplE d ⟨oneB d.net d.net.source, d.init⟩ most = p at *
      obtain ⟨⟨ps, pm, pf⟩, pc⟩ := p
      dsimp only at *
      subst hc hf
      go_wp2_with fail
      go_ret3
      rw [HR.out]
      exact ⟨_, _, rfl, Sl.none_, Sl.none_, hbw4⟩
    · have HR := Lib.hid (dwhole_ok HV.out (fun h => hf h.2))
      rw [Bool.not_eq_false] at hf
      generalize dexplE d ⟨oneB d.net d.net.source, d.init⟩ most = p at *
      obtain ⟨⟨ps, pm, pf⟩, pc⟩ := p
      dsimp only at *
      subst hc hf
      go_wp2_with fail
      go_ret3
      rw [HR.out]
      exact ⟨_, _, rfl, h1, h2, hbw4⟩
  · have HR := Lib.hid (dwhole_ok HV.out (fun h => hc h.1))
    generalize dexplE d ⟨oneB d.net d.net.source, d.init⟩ most = p at *
    obtain ⟨⟨ps, pm, pf⟩, pc⟩ := p
    dsimp only at *
    have bc : (pc == 0) = false := by simpa using hc
    clear hc
    go_wp2_with fail
    go_ret3
    rw [HR.out]
    exact ⟨_, _, rfl, h1, h2, hbw4⟩
def preds (mv : List Mv) (k : Nat) : List Int := (mv.filter fun m => decide (m.dst = k)).map fun m => (m.src : Int)
def predRows (n : Nat) (mv : List Mv) : List (List Int) := (List.range n).map (preds mv)
theorem preds_snoc (mv : List Mv) (m : Mv) (k : Nat) : preds (mv ++ [m]) k = preds mv k ++ if m.dst = k then [(m.src : Int)] else [] := by
  unfold preds
  rw [List.filter_append, List.map_append]
  by_cases h : m.dst = k <;> simp [h]
theorem predRows_len (n : Nat) (mv : List Mv) : (predRows n mv).length = n := by simp [predRows]
theorem predRows_at {n : Nat} {mv : List Mv} {k : Nat} (hk : k < n) : (predRows n mv)[k]? = some (preds mv k) := by
  unfold predRows
  rw [List.getElem?_map, List.getElem?_range hk]; rfl
theorem predRows_snoc {n : Nat} {mv : List Mv} {m : Mv} : predRows n (mv ++ [m]) = (predRows n mv).set m.dst (preds mv m.dst ++ [(m.src : Int)]) := by
  refine List.ext_getElem? fun i => ?_
  by_cases hi : i < n
  · rw [predRows_at hi, preds_snoc]
    by_cases e : m.dst = i
    · subst e
      rw [if_pos rfl, List.getElem?_set_self (by rw [predRows_len]; exact hi)]
    · rw [if_neg e, List.append_nil, List.getElem?_set_ne e, predRows_at hi]
  · rw [List.getElem?_eq_none (by rw [predRows_len]; omega), List.getElem?_eq_none (by rw [List.length_set, predRows_len]; omega)]
theorem preds_len (mv : List Mv) (k : Nat) : (preds mv k).length ≤ mv.length := by
  unfold preds
  rw [List.length_map]
  exact List.length_filter_le _ _
theorem preds_mem {mv : List Mv} {k : Nat} {z : Int} (h : z ∈ preds mv k) : ∃ m ∈ mv, m.dst = k ∧ z = (m.src : Int) := by
  unfold preds at h
  obtain ⟨m, hm, rfl⟩ := List.mem_map.1 h
  obtain ⟨h1, h2⟩ := List.mem_filter.1 hm
  exact ⟨m, h1, by simpa using h2, rfl⟩
theorem mem_preds {mv : List Mv} {m : Mv} (h : m ∈ mv) : (m.src : Int) ∈ preds mv m.dst := by
  unfold preds
  exact List.mem_map.2 ⟨m, List.mem_filter.2 ⟨h, by simp⟩, rfl⟩
structure OwnRows (w : World) (base : Nat) (vs : List Value) (rows : List (List Int)) : Prop where
  len : vs.length = rows.length
  own : ∀ (i : Nat) (v : Value) (r : List Int), vs[i]? = some v → rows[i]? = some r → w.ownsRow base 3 1 v r.length (r.map (Value.int .i64))
  apart : ∀ (i j : Nat) (v v' : Value) (g : Nat), i ≠ j → vs[i]? = some v → vs[j]? = some v' → v.ownBlock = some g → v'.ownBlock ≠ some g
section
variable {w w' : World} {base : Nat} {vs : List Value} {rows : List (List Int)}
theorem OwnRows.now (h : OwnRows w base vs rows) (hb : Below w.heap.size w w') : OwnRows w' base vs rows := ⟨h.len, fun i v r h1 h2 => own_now (h.own i v r h1 h2) hb, h.apart⟩
theorem OwnRows.start (w : World) (base n : Nat) : OwnRows w base (List.replicate n (.slice none 0 0)) (predRows n []) := by
  refine ⟨by rw [List.length_replicate, predRows_len], fun i v r h1 h2 => ?_, fun i j v v' g _ h1 _ hg => ?_⟩
  · have hi : i < n := by have := lt_of_get h1; simpa using this
    rw [List.getElem?_replicate, if_pos hi] at h1
    injection h1 with h1
    subst h1
    rw [predRows_at hi] at h2
    injection h2 with h2
    subst h2
    exact World.ownsRow_nil _ _ _ _
  · have hi : i < n := by have := lt_of_get h1; simpa using this
    rw [List.getElem?_replicate, if_pos hi] at h1
    injection h1 with h1
    subst h1
    simp [Value.ownBlock] at hg
theorem OwnRows.push {k : Nat} {v v' : Value} {r : List Int} {z : Int} (h : OwnRows w base vs rows) (hv : vs[k]? = some v) (hr : rows[k]? = some r) (h' : w'.ownsRow base 3 1 v' (r.length + 1) (r.map (Value.int .i64) ++ [.int .i64 z])) (hg : w.grownBy w' v.ownBlock) (hat : v'.ownBlock = v.ownBlock ∨ v'.ownBlock = some (w.heap.size + 1)) :
    OwnRows w' base (vs.set k v') (rows.set k (r ++ [z])) := by
  have hk := lt_of_get hv
  have hkr := lt_of_get hr
  have keyb : ∀ (j : Nat) (u : Value) (g : Nat), j ≠ k → vs[j]? = some u → u.ownBlock = some g → v'.ownBlock ≠ some g := by
    intro j u g hj hu hg'
    rcases hat with e | e
    · rw [e]; exact h.apart j k u v g hj hu hv hg'
    · rw [e]
      intro e'
      injection e' with e'
      have hrj := (h.own j u (rows[j]'(by rw [← h.len]; exact lt_of_get hu)) hu (List.getElem?_eq_getElem _))
      have := (World.ownsRow.lt hrj g hg').2
      omega
  refine ⟨by rw [List.length_set, List.length_set]; exact h.len, fun i u s h1 h2 => ?_, fun i j u u' g hij h1 h2 hgu => ?_⟩
  · by_cases e : k = i
    · subst e
      rw [List.getElem?_set_self hk] at h1
      rw [List.getElem?_set_self hkr] at h2
      injection h1 with h1
      injection h2 with h2
      subst h1 h2
      simpa using h'
    · rw [List.getElem?_set_ne e] at h1 h2
      refine (h.own i u s h1 h2).kept hg ?_
      cases eo : u.ownBlock with
      | none => exact .inl rfl
      | some g => exact .inr (fun e' => h.apart i k u v g (fun x => e x.symm) h1 hv eo (e'.symm))
  · by_cases ei : k = i
    · subst ei
      rw [List.getElem?_set_self hk] at h1
      injection h1 with h1
      subst h1
      rw [List.getElem?_set_ne hij] at h2
      intro e2
      exact keyb j u' g (fun x => hij x.symm) h2 e2 hgu
    · rw [List.getElem?_set_ne ei] at h1
      by_cases ej : k = j
      · subst ej
        rw [List.getElem?_set_self hk] at h2
        injection h2 with h2
        subst h2
        exact keyb i u g hij h1 hgu
      · rw [List.getElem?_set_ne ej] at h2
        exact h.apart i j u u' g hij h1 h2 hgu
theorem OwnRows.far {g : Nat} (h : OwnRows w base vs rows) {t cap : Nat} {xs : List Value} (ho : OwnF id w base t g cap xs) (ht : t ≠ 3) (k : Nat) (u : Value) : OwnRows (w.setCell ⟨g, k, none⟩ u) base vs rows := by
  refine ⟨h.len, fun i v r h1 h2 => ?_, h.apart⟩
  have h3 := h.own i v r h1 h2
  exact ownsRow_setCell_other h3 (fun e => own_apart h3 ho.1 (fun e => ht e.symm) e (by rfl)) u
theorem OwnRows.sl {g cap t : Nat} (h : OwnRows w base vs rows) (ho : OwnF id w base t g cap vs) (hf : ∀ r ∈ rows, ∀ z ∈ r, Fit z) : SlII (Lt w.heap.size) w (.slice (some ⟨g, 0, none⟩) vs.length cap) rows := by
  refine Sl.of_own1 ho.1 h.len.symm (fun q hq => by have := ho.lt; simp only [Value.ownBlock, Option.some.injEq] at hq; subst hq; exact this) fun i r hr => ?_
  have hi : i < vs.length := by rw [h.len]; exact lt_of_get hr
  refine ⟨vs[i], by simp [List.getElem?_eq_getElem hi], vs[i], rfl, ?_⟩
  exact SlI.of_own (h.own i _ r (List.getElem?_eq_getElem hi) hr) (hf r (List.mem_of_getElem? hr))
end
structure Marks (n : DNet) (p : Sp) (gs : List Bool) (wk : List Nat) : Prop where
  len : gs.length = p.states.length
  sound : ∀ i, gs.getD i false = true → CanF n p i
  fin : ∀ i s, p.states[i]? = some s → finalM n s.marks = true → gs.getD i false = true
  work : ∀ i ∈ wk, gs.getD i false = true
def Open (p : Sp) (gs : List Bool) (wk : List Nat) (i j : Nat) : Prop :=
  ∀ m ∈ p.moves, gs.getD m.dst false = true → m.dst ∈ wk ∨ gs.getD m.src false = true ∨ (m.dst = i ∧ (m.src : Int) ∈ (preds p.moves i).drop j)
def Closed (p : Sp) (gs : List Bool) (wk : List Nat) : Prop := ∀ m ∈ p.moves, gs.getD m.dst false = true → m.dst ∈ wk ∨ gs.getD m.src false = true
theorem getD_set_true {gs : List Bool} {i k : Nat} (h : gs.getD k false = true) : (gs.set i true).getD k false = true := by
  rw [List.getD_eq_getElem?_getD, List.getElem?_set]
  split
  · rename_i e
    subst e
    split
    · rfl
    · rename_i h1
      rw [List.getD_eq_getElem?_getD, List.getElem?_eq_none (by omega)] at h
      cases h
  · rw [List.getD_eq_getElem?_getD] at h; exact h
theorem getD_set_at {gs : List Bool} {i : Nat} (h : i < gs.length) : (gs.set i true).getD i false = true := by
  rw [List.getD_eq_getElem?_getD, List.getElem?_set_self h]; rfl
theorem getD_set_back {gs : List Bool} {i k : Nat} (h : (gs.set i true).getD k false = true) : k = i ∨ gs.getD k false = true := by
  by_cases e : i = k
  · exact .inl e.symm
  · rw [List.getD_eq_getElem?_getD, List.getElem?_set_ne e] at h
    exact .inr (by rw [List.getD_eq_getElem?_getD]; exact h)
section
variable {n : DNet} {p : Sp} {gs : List Bool} {wk : List Nat} {i j k : Nat}
theorem Closed.pop (h : Closed p gs (wk ++ [i])) : Open p gs wk i 0 := by
  intro m hm hg
  rcases h m hm hg with h1 | h1
  · rcases List.mem_append.1 h1 with h2 | h2
    · exact .inl h2
    · rw [List.mem_singleton] at h2
      exact .inr (.inr ⟨h2, by rw [List.drop_zero, ← h2]; exact mem_preds hm⟩)
  · exact .inr (.inl h1)
theorem Open.done (h : Open p gs wk i (preds p.moves i).length) : Closed p gs wk := by
  intro m hm hg
  rcases h m hm hg with h1 | h1 | ⟨_, h1⟩
  · exact .inl h1
  · exact .inr h1
  · rw [List.drop_eq_nil_of_le (Nat.le_refl _)] at h1; simp at h1
theorem Open.skip (h : Open p gs wk i j) (hk : (preds p.moves i)[j]? = some (k : Int)) (hg : gs.getD k false = true) : Open p gs wk i (j + 1) := by
  intro m hm hd
  rcases h m hm hd with h1 | h1 | ⟨h1, h2⟩
  · exact .inl h1
  · exact .inr (.inl h1)
  · have hj := lt_of_get hk
    rw [List.getElem?_eq_getElem hj] at hk
    injection hk with hk
    rw [List.drop_eq_getElem_cons hj, hk] at h2
    rcases List.mem_cons.1 h2 with h3 | h3
    · have : m.src = k := by omega
      exact .inr (.inl (by rw [this]; exact hg))
    · exact .inr (.inr ⟨h1, h3⟩)
theorem Open.mark (h : Open p gs wk i j) (hk : (preds p.moves i)[j]? = some (k : Int)) (hl : k < gs.length) : Open p (gs.set k true) (wk ++ [k]) i (j + 1) := by
  intro m hm hd
  rcases getD_set_back hd with e | hd
  · exact .inl (by rw [e]; simp)
  · rcases h m hm hd with h1 | h1 | ⟨h1, h2⟩
    · exact .inl (by simp [h1])
    · exact .inr (.inl (getD_set_true h1))
    · have hj := lt_of_get hk
      rw [List.getElem?_eq_getElem hj] at hk
      injection hk with hk
      rw [List.drop_eq_getElem_cons hj, hk] at h2
      rcases List.mem_cons.1 h2 with h3 | h3
      · have : m.src = k := by omega
        exact .inr (.inl (by rw [this]; exact getD_set_at hl))
      · exact .inr (.inr ⟨h1, h3⟩)
theorem Marks.mark (h : Marks n p gs wk) (hc : CanF n p k) (hl : k < p.states.length) : Marks n p (gs.set k true) (wk ++ [k]) := by
  refine ⟨by rw [List.length_set]; exact h.len, fun i hi => ?_, fun i s hs hf => getD_set_true (h.fin i s hs hf), fun i hi => ?_⟩
  · rcases getD_set_back hi with e | e
    · rw [e]; exact hc
    · exact h.sound i e
  · rcases List.mem_append.1 hi with h1 | h1
    · exact getD_set_true (h.work i h1)
    · rw [List.mem_singleton] at h1
      subst h1
      exact getD_set_at (by rw [h.len]; exact hl)
theorem Marks.pop (h : Marks n p gs (wk ++ [i])) : Marks n p gs wk ∧ gs.getD i false = true :=
  ⟨⟨h.len, h.sound, h.fin, fun j hj => h.work j (by simp [hj])⟩, h.work i (by simp)⟩
theorem pred_can (hc : CanF n p i) (hk : (preds p.moves i)[j]? = some (k : Int)) : CanF n p k := by
  obtain ⟨m, hm, e, hz⟩ := preds_mem (List.mem_of_getElem? hk)
  have : m.src = k := by omega
  rw [← this]
  refine .go hm ?_
  rw [e]; exact hc
theorem Marks.done (h : Marks n p gs []) (hc : Closed p gs []) (hm : ∀ m ∈ p.moves, m.src < p.states.length) : gs = goodL n p := by
  have key : ∀ i, gs.getD i false = true ↔ (goodL n p).getD i false = true := by
    intro i
    rw [good_iff hm i]
    refine ⟨h.sound i, fun hi => ?_⟩
    induction hi with
    | here hf => obtain ⟨s, hs, hf⟩ := hf; exact h.fin _ s hs hf
    | @go m hm' _ ih =>
      rcases hc m hm' ih with h1 | h1
      · simp at h1
      · exact h1
  refine List.ext_getElem? fun i => ?_
  by_cases hi : i < p.states.length
  · have h1 : i < gs.length := by rw [h.len]; exact hi
    have h2 : i < (goodL n p).length := by rw [goodL_len]; exact hi
    have := key i
    rw [List.getD_eq_getElem?_getD, List.getD_eq_getElem?_getD, List.getElem?_eq_getElem h1, List.getElem?_eq_getElem h2] at this
    rw [List.getElem?_eq_getElem h1, List.getElem?_eq_getElem h2]
    simp only [Option.getD_some] at this
    congr 1
    rw [Bool.eq_iff_iff]; exact this
  · rw [List.getElem?_eq_none (by rw [h.len]; omega), List.getElem?_eq_none (by rw [goodL_len]; omega)]
end
def finTo (n : DNet) (p : Sp) (i : Nat) : List Bool := (List.range p.states.length).map fun k => decide (k < i) && finalM n (p.states.getD k noSt).marks
def workTo (n : DNet) (p : Sp) (i : Nat) : List Nat := (List.range i).filter fun k => finalM n (p.states.getD k noSt).marks
theorem fin_at {n : DNet} {p : Sp} {i k : Nat} (hk : k < p.states.length) : (finTo n p i)[k]? = some (decide (k < i) && finalM n (p.states.getD k noSt).marks) := by
  unfold finTo
  rw [List.getElem?_map, List.getElem?_range hk]; rfl
theorem fin_len (n : DNet) (p : Sp) (i : Nat) : (finTo n p i).length = p.states.length := by simp [finTo]
theorem fin_zero (n : DNet) (p : Sp) : finTo n p 0 = List.replicate p.states.length false := by
  refine List.ext_getElem? fun k => ?_
  by_cases hk : k < p.states.length
  · rw [fin_at hk, List.getElem?_replicate, if_pos hk]; simp
  · rw [List.getElem?_eq_none (by rw [fin_len]; omega), List.getElem?_eq_none (by simp; omega)]
theorem fin_yes {n : DNet} {p : Sp} {i : Nat} {s : St} (hs : p.states[i]? = some s) (hf : finalM n s.marks = true) : finTo n p (i + 1) = (finTo n p i).set i true ∧ workTo n p (i + 1) = workTo n p i ++ [i] := by
  have hi := lt_of_get hs
  have hg : p.states.getD i noSt = s := by rw [List.getD_eq_getElem?_getD, hs]; rfl
  refine ⟨List.ext_getElem? fun k => ?_, ?_⟩
  · by_cases hk : k < p.states.length
    · by_cases e : i = k
      · subst e
        rw [fin_at hk, List.getElem?_set_self (by rw [fin_len]; exact hk), hg, hf]; simp
      · rw [fin_at hk, List.getElem?_set_ne e, fin_at hk]
        have : (k < i + 1) ↔ (k < i) := by omega
        simp only [this]
    · rw [List.getElem?_eq_none (by rw [fin_len]; omega), List.getElem?_eq_none (by rw [List.length_set, fin_len]; omega)]
  · unfold workTo
    rw [List.range_succ, List.filter_append]
    simp [List.getD_eq_getElem?_getD, hs, hf]
theorem fin_no {n : DNet} {p : Sp} {i : Nat} {s : St} (hs : p.states[i]? = some s) (hf : finalM n s.marks = false) : finTo n p (i + 1) = finTo n p i ∧ workTo n p (i + 1) = workTo n p i := by
  have hi := lt_of_get hs
  have hg : p.states.getD i noSt = s := by rw [List.getD_eq_getElem?_getD, hs]; rfl
  refine ⟨List.ext_getElem? fun k => ?_, ?_⟩
  · by_cases hk : k < p.states.length
    · rw [fin_at hk, fin_at hk]
      by_cases e : k = i
      · subst e
        rw [hg, hf]; simp
      · have : (k < i + 1) ↔ (k < i) := by omega
        simp only [this]
    · rw [List.getElem?_eq_none (by rw [fin_len]; omega), List.getElem?_eq_none (by rw [fin_len]; omega)]
  · unfold workTo
    rw [List.range_succ, List.filter_append]
    simp [List.getD_eq_getElem?_getD, hs, hf]
theorem work_len (n : DNet) (p : Sp) (i : Nat) : (workTo n p i).length ≤ i := by
  unfold workTo
  have := List.length_filter_le (fun k => finalM n (p.states.getD k noSt).marks) (List.range i)
  simpa using this
theorem marks_start (n : DNet) (p : Sp) : Marks n p (finTo n p p.states.length) (workTo n p p.states.length) ∧ Closed p (finTo n p p.states.length) (workTo n p p.states.length) := by
  have hat : ∀ k, (finTo n p p.states.length).getD k false = true → k < p.states.length ∧ finalM n (p.states.getD k noSt).marks = true := by
    intro k hk
    by_cases hl : k < p.states.length
    · rw [List.getD_eq_getElem?_getD, fin_at hl] at hk
      simp only [Option.getD_some, Bool.and_eq_true] at hk
      exact ⟨hl, hk.2⟩
    · rw [List.getD_eq_getElem?_getD, List.getElem?_eq_none (by rw [fin_len]; omega)] at hk
      cases hk
  have hwk : ∀ k, k < p.states.length → finalM n (p.states.getD k noSt).marks = true → k ∈ workTo n p p.states.length := fun k h1 h2 => List.mem_filter.2 ⟨List.mem_range.2 h1, h2⟩
  refine ⟨⟨fin_len _ _ _, fun i hi => ?_, fun i s hs hf => ?_, fun i hi => ?_⟩, fun m _ hg => ?_⟩
  · obtain ⟨h1, h2⟩ := hat i hi
    refine .here ⟨p.states.getD i noSt, ?_, h2⟩
    rw [List.getD_eq_getElem?_getD, List.getElem?_eq_getElem h1]; rfl
  · have hl := lt_of_get hs
    rw [List.getD_eq_getElem?_getD, fin_at hl, List.getD_eq_getElem?_getD, hs]
    simp [hl, hf]
  · obtain ⟨h1, h2⟩ := List.mem_filter.1 hi
    have hl := List.mem_range.1 h1
    rw [List.getD_eq_getElem?_getD, fin_at hl, h2]
    simp [hl]
  · obtain ⟨h1, h2⟩ := hat _ hg
    exact .inl (hwk _ h1 h2)
theorem first_none {n : DNet} {p : Sp} (h : ∀ i, i < p.states.length → badAt n p i = false) : firstBad n p = none := by
  unfold firstBad
  rw [List.find?_eq_none]
  intro i hi
  rw [h i (List.mem_range.1 hi)]; simp
theorem first_some {n : DNet} {p : Sp} {k : Nat} (hk : k < p.states.length) (hb : badAt n p k = true) (h : ∀ i, i < k → badAt n p i = false) : firstBad n p = some k := by
  unfold firstBad
  rw [List.find?_eq_some_iff_getElem]
  refine ⟨hb, k, by simpa using hk, by simp, fun j hj => ?_⟩
  rw [List.getElem_range, h j hj]; rfl
theorem bad_at {n : DNet} {p : Sp} {i : Nat} {s : St} (hs : p.states[i]? = some s) : badAt n p i = badS n s ((goodL n p).getD i false) := by
  unfold badAt
  have hg : p.states.getD i noSt = s := by rw [List.getD_eq_getElem?_getD, hs]; rfl
  rw [hg]
theorem dsound_err {d : DNet} {most : Int} (h : (dwholeE d most).2 ≠ 0) : dsoundE d most = (false, [], (dwholeE d most).2) := if_pos h
theorem dsound_yes {d : DNet} {most : Int} (h : (dwholeE d most).2 = 0) (hf : firstBad d (dwholeE d most).1 = none) : dsoundE d most = (true, [], 0) := by
  unfold dsoundE; rw [if_neg (by rw [h]; simp), hf]
theorem dsound_no {d : DNet} {most : Int} {k : Nat} (h : (dwholeE d most).2 = 0) (hf : firstBad d (dwholeE d most).1 = some k) : dsoundE d most = (false, pathD (dwholeE d most).1.moves k, 0) := by
  unfold dsoundE; rw [if_neg (by rw [h]; simp), hf]
theorem whole_inv {d : DNet} {most : Int} (h : (dwholeE d most).2 = 0) : ∃ mo, mo ≤ 2000 ∧ DInv d ⟨oneB d.net d.net.source, d.init⟩ mo (dwholeE d most).1 ∧ dvalidB d = true ∧ (dwholeE d most).1.full = true ∧ exFrom d ⟨oneB d.net d.net.source, d.init⟩ mo = some (dwholeE d most).1 ∧ vstateB d ⟨oneB d.net d.net.source, d.init⟩ = true ∧ 1 ≤ mo ∧ most = mo := by
  unfold dwholeE at h ⊢
  by_cases hv : dvalidB d = false
  · rw [if_pos hv] at h; cases h
  rw [if_neg hv] at h ⊢
  rw [Bool.not_eq_false] at hv
  split at h
  · cases h
  · rename_i hc
    rw [if_neg hc]
    unfold dexplE at h hc ⊢
    by_cases h1 : vstateB d ⟨oneB d.net d.net.source, d.init⟩ = false
    · rw [if_pos h1] at h; cases h
    rw [if_neg h1] at h hc ⊢
    rw [Bool.not_eq_false] at h1
    by_cases h2 : most < 1 ∨ 2000 < most
    · rw [if_pos h2] at h; cases h
    rw [if_neg h2] at h hc ⊢
    cases he : exFrom d ⟨oneB d.net d.net.source, d.init⟩ most.toNat with
    | none => rw [he] at h; cases h
    | some p =>
      rw [he] at h hc
      refine ⟨most.toNat, by omega, exFrom_inv hv (vstate_parts h1).2 (by omega) he, hv, ?_, he, h1, by omega, by omega⟩
      cases hf : p.full
      · exact absurd ⟨rfl, hf⟩ hc
      · rfl
def andX (a b : Ex) : Ex := .mk 4 noV emptyS [a, b]
def stronger (n : DNet) (k : Nat) (x : Ex) : DNet := { n with guards := n.guards.set k x }
section
variable {n : DNet} {k : Nat} {a b : Ex} {s s0 x : St} {most : Nat} {p q : Sp}
end
end Go.Proofs.YtlmenhjlgmejkaaGreatDoor
