/- Texts of this seat, merged. -/
import Derived.Laws.StructEq
import Derived.Test.YtlmenhjlgmejkaaGreatDoorBa27
set_option linter.unusedSimpArgs false
set_option linter.unusedVariables false
namespace Go.Proofs.YtlmenhjlgmejkaaGreatDoor
open Go.RowKit
theorem sameSt_iff {a b : St} : sameSt a b = true ↔ a = b := by
  obtain ⟨m, v⟩ := a
  obtain ⟨m', v'⟩ := b
  unfold sameSt
  simp
end Go.Proofs.YtlmenhjlgmejkaaGreatDoor

namespace Go.Proofs.YtlmenhjlgmejkaaGreatDoor
open Go.RowKit
def findZ (l : List St) (s : St) : Int := match idxS l s with
  | some k => (k : Int)
  | none => -1
theorem findZ_at {l : List St} {s x : St} {k : Nat} (hp : ∀ j, j < k → l[j]? ≠ some s) (hx : l[k]? = some x) (e : sameSt x s = true) : findZ l s = k := by
  obtain rfl := sameSt_iff.1 e
  have h : idxS l x = some k := by
    unfold idxS
    rw [List.findIdx?_eq_some_iff_getElem]
    have hk := lt_of_get hx
    have hg := List.getElem?_eq_getElem hk
    rw [hx] at hg
    injection hg with hg
    refine ⟨hk, by simp [← hg], fun j hj => ?_⟩
    have hj2 := List.getElem?_eq_getElem (Nat.lt_trans hj hk)
    have := hp j hj
    rw [hj2] at this
    simpa using this
  unfold findZ
  rw [h]
theorem findZ_none {l : List St} {s : St} (hp : ∀ j, j < l.length → l[j]? ≠ some s) : findZ l s = -1 := by
  have h : idxS l s = none := by
    unfold idxS
    rw [List.findIdx?_eq_none_iff]
    intro x hx
    obtain ⟨j, hj⟩ := List.mem_iff_getElem?.1 hx
    simp only [decide_eq_false_iff_not]
    rintro rfl
    exact hp j (lt_of_get hj) hj
  unfold findZ
  rw [h]
set_option maxHeartbeats 4000000 in
set_option maxRecDepth 100000 in
theorem find30_ref (l : List St) (s : St) (lv us : Value) (w : World) (hl : SlSt (Lt w.heap.size) w lv l) (hs : IsSt (Lt w.heap.size) w us s) :
    Calls Tryz.prog 30 #[lv, us] w fun e w' => e = .returned (.int .i64 (findZ l s)) ∧ Below w.heap.size w w' := by
  have hs0 := hs
  obtain ⟨Am, cm, Av, cv, rfl, s1, s2, ⟨t3, t4⟩, t5, t6⟩ := hs.open_
  obtain ⟨Al, cl, rfl, l1, l2, hl⟩ := Sl.open_ hl
  have hl : SlSt (Lt w.heap.size) w (.slice Al l.length cl) l := hl
  clear hs s1 s2
  have hb := bone w (.cells #[.slice Am s.marks.length cm, .slice Av s.vals.length cv] 33)
  have hC := Blk.new w 33 #[.slice Am s.marks.length cm, .slice Av s.vals.length cv]
  have hl1 := hl.now hb
  have hs1 := hs0.now hb
  clear hl hs0
  go_enter Tryz.func30, Tryz.ntmps30
  go_upto_region 1 with fail
  generalize hw1e : w.alloc (.cells #[.slice Am s.marks.length cm, .slice Av s.vals.length cv] 33) = w1 at *
  clear hw1e
  go_wp2_with fail
  go_loopw [5] (fun i wr => ∃ k : Nat, k ≤ l.length ∧ i = .int .i64 k ∧ (∀ j, j < k → l[j]? ≠ some s) ∧ Below w1.heap.size w1 wr) (fun i _ => l.length - (intOf i).toNat)
  case atStart => exact ⟨0, Nat.zero_le _, rfl, fun j h => absurd h (by omega), Below.refl _ _⟩
  case round =>
    obtain ⟨k, hk, rfl, hp, hbr⟩ := hrel
    have HP := Lib.hid hp
    clear hp
    by_cases hlt : k < l.length
    rotate_left
    · have HE := Lib.hid (findZ_none (l := l) (s := s) (fun j hj => HP.out j (by omega)))
      go_wp2_with fail
      go_ret
      rw [HE.out]
      exact ⟨rfl, bthen hb hbr⟩
    have hlr := hl1.now hbr
    have hCr := hC.now hbr
    obtain ⟨b, o, x, mv, vv, rfl, hD, hx, hm, hv, c0, c1⟩ := hlr.at_ hlt
    obtain ⟨Ax, cx, rfl, _, _, hm⟩ := hm.open_
    obtain ⟨Ay, cy, rfl, _, _, hv⟩ := hv.open_
    have HX := Lib.hid hx
    have HCS : Hid (∀ W, Below wr.heap.size wr W → Calls Tryz.prog 16 #[.agg #[.slice Ax x.marks.length cx, .slice Ay x.vals.length cy], .agg #[.slice Am s.marks.length cm, .slice Av s.vals.length cv]] W fun e w' => e = .returned (.bool (sameSt x s)) ∧ Below wr.heap.size wr w') := fun W hW => (sameSt_ref _ _ _ _ W ⟨_, _, rfl, hm.now hW, hv.now hW⟩ ((hs1.now hbr).now hW)).mono fun e w' ⟨he, hb'⟩ => ⟨he, bthen hW hb'⟩
    have HS : Hid (∀ W, Below wr.heap.size wr W → W.cell? ⟨w.heap.size, 0, none⟩ = some (.slice Am s.marks.length cm) ∧ W.cell? ⟨w.heap.size, 1, none⟩ = some (.slice Av s.vals.length cv) ∧ W.cell? ⟨b, o + k * 2, none⟩ = some (.slice Ax x.marks.length cx) ∧ W.cell? ⟨b, o + k * 2 + 1, none⟩ = some (.slice Ay x.vals.length cy)) := fun W hW => ⟨(hCr.now hW).c2.1, (hCr.now hW).c2.2, (hW.cell (p := ⟨b, _, none⟩) hD).trans c0, (hW.cell (p := ⟨b, _, none⟩) hD).trans c1⟩
    have i1 : (0 : Int) ≤ (k : Int) := by omega
    have i2 : (k : Int) < (l.length : Int) := by omega
    clear hx hm hv c0 c1 hlr hCr
    go_upto_region 4 with fail
    have hbd : Below wr.heap.size wr wr.drew := (Below.refl _ _).drew
    obtain ⟨a0, a1, d0, d1⟩ := HS.out _ hbd
    have HQ : Hid (∃ q, q = sameSt x s) := ⟨_, rfl⟩
    obtain ⟨q, hq⟩ := HQ.out
    have HQ := Lib.hid hq
    rw [← hq] at HCS
    clear hq
    go_cut [17] (fun s17 W => s17 = .bool q ∧ Below wr.heap.size wr W)
    case first =>
      go_region_held3 (fun W => W.cell? ⟨w.heap.size, 0, none⟩ = some (.slice Am s.marks.length cm) ∧ W.cell? ⟨w.heap.size, 1, none⟩ = some (.slice Av s.vals.length cv) ∧ W.cell? ⟨b, o + k * 2, none⟩ = some (.slice Ax x.marks.length cx) ∧ W.cell? ⟨b, o + k * 2 + 1, none⟩ = some (.slice Ay x.vals.length cy)) (first | exact HS.out _ (by assumption))
        (first | (go_at_call 16; (with_reducible refine (HCS.out _ (by assumption)).mono ?_); rintro e w6 ⟨rfl, hb6⟩))
      all_goals (go_wp2_with fail; go_meet)
      all_goals exact ⟨rfl, by assumption⟩
    case rest =>
      obtain ⟨rfl, hb6⟩ := hcut
      have hb6 := hbr.trans (hb6.mono hbr.size)
      clear HCS HS
      cases q
      · go_wp2_with fail
        go_roundw
        case rel => exact ⟨k + 1, by omega, by go_num, fun j hj => by
          by_cases e : j = k
          · subst e
            rw [HX.out]
            intro h
            injection h with h
            have h2 := HQ.out
            rw [h, sameSt_self] at h2
            cases h2
          · exact HP.out j (by omega), hb6⟩
        case measure => simp [intOf]; omega
      · have HE := Lib.hid (findZ_at HP.out HX.out HQ.out.symm)
        go_wp2_with fail
        go_ret
        rw [HE.out]
        exact ⟨rfl, bthen hb hb6⟩
set_option maxHeartbeats 4000000 in
set_option maxRecDepth 100000 in
theorem sameAll_ref (l m : List St) (lv mv : Value) (w : World) (hl : SlSt (Lt w.heap.size) w lv l) (hm : SlSt (Lt w.heap.size) w mv m) :
    Calls Tryz.prog 19 #[lv, mv] w fun e w' => e = .returned (.bool (decide (l = m))) ∧ Below w.heap.size w w' := by
  obtain ⟨Al, cl, rfl, l1, l2, hl⟩ := Sl.open_ hl
  have hl : SlSt (Lt w.heap.size) w (.slice Al l.length cl) l := hl
  obtain ⟨Bl, dl, rfl, m1, m2, hm⟩ := Sl.open_ hm
  have hm : SlSt (Lt w.heap.size) w (.slice Bl m.length dl) m := hm
  by_cases hne : l.length = m.length
  rotate_left
  · have HE : Hid (decide (l = m) = false) := by show _ = _; rw [decide_eq_false_iff_not]; exact fun e => hne (by rw [e])
    have t1 : ((l.length : Int) != (m.length : Int)) = true := by simp; omega
    clear hne hl hm
    go_enter Tryz.func19, Tryz.ntmps19
    go_wp2_with fail
    go_ret
    rw [HE.out]
    exact ⟨rfl, Below.refl _ _⟩
  have t1 : ((l.length : Int) != (m.length : Int)) = false := by simp [hne]
  have HN := Lib.hid hne
  have hne2 : l.length ≤ m.length := by omega
  clear hne
  go_enter Tryz.func19, Tryz.ntmps19
  go_wp2_with fail
  clear t1
  go_loopw [5] (fun i wr => ∃ k : Nat, k ≤ l.length ∧ i = .int .i64 k ∧ (∀ j, j < k → l[j]? = m[j]?) ∧ Below w.heap.size w wr) (fun i _ => l.length - (intOf i).toNat)
  case atStart => exact ⟨0, Nat.zero_le _, rfl, fun j h => absurd h (by omega), Below.refl _ _⟩
  case round =>
    obtain ⟨k, hk, rfl, hp, hbr⟩ := hrel
    have HP := Lib.hid hp
    clear hp
    by_cases hlt : k < l.length
    rotate_left
    · have HE : Hid (decide (l = m) = true) := by show _ = _; rw [decide_eq_true_iff]; exact eq_of_gets HN.out (fun j hj => HP.out j (by omega))
      go_wp2_with fail
      go_ret
      rw [HE.out]
      exact ⟨rfl, hbr⟩
    have hlr := hl.now hbr
    have hmr := hm.now hbr
    obtain ⟨b, o, x, mv, vv, rfl, hD, hx, hm1, hv1, c0, c1⟩ := hlr.at_ hlt
    obtain ⟨Ax, cx, rfl, _, _, hm1⟩ := hm1.open_
    obtain ⟨Ay, cy, rfl, _, _, hv1⟩ := hv1.open_
    obtain ⟨b2, o2, y, mv, vv, rfl, hD2, hy, hm2, hv2, d0, d1⟩ := hmr.at_ (k := k) (by omega)
    obtain ⟨Bx, dx, rfl, _, _, hm2⟩ := hm2.open_
    obtain ⟨By, dy, rfl, _, _, hv2⟩ := hv2.open_
    have HX := Lib.hid hx
    have HY := Lib.hid hy
    have HCS : Hid (∀ W, Below wr.heap.size wr W → Calls Tryz.prog 16 #[.agg #[.slice Ax x.marks.length cx, .slice Ay x.vals.length cy], .agg #[.slice Bx y.marks.length dx, .slice By y.vals.length dy]] W fun e w' => e = .returned (.bool (sameSt x y)) ∧ Below wr.heap.size wr w') := fun W hW => (sameSt_ref _ _ _ _ W ⟨_, _, rfl, hm1.now hW, hv1.now hW⟩ ⟨_, _, rfl, hm2.now hW, hv2.now hW⟩).mono fun e w' ⟨he, hb'⟩ => ⟨he, bthen hW hb'⟩
    have HS : Hid (∀ W, Below wr.heap.size wr W → W.cell? ⟨b, o + k * 2, none⟩ = some (.slice Ax x.marks.length cx) ∧ W.cell? ⟨b, o + k * 2 + 1, none⟩ = some (.slice Ay x.vals.length cy) ∧ W.cell? ⟨b2, o2 + k * 2, none⟩ = some (.slice Bx y.marks.length dx) ∧ W.cell? ⟨b2, o2 + k * 2 + 1, none⟩ = some (.slice By y.vals.length dy)) := fun W hW => ⟨(hW.cell (p := ⟨b, _, none⟩) hD).trans c0, (hW.cell (p := ⟨b, _, none⟩) hD).trans c1, (hW.cell (p := ⟨b2, _, none⟩) hD2).trans d0, (hW.cell (p := ⟨b2, _, none⟩) hD2).trans d1⟩
    have i1 : (0 : Int) ≤ (k : Int) := by omega
    have i2 : (k : Int) < (l.length : Int) := by omega
    have i3 : (k : Int) < (m.length : Int) := by omega
    clear hx hy hm1 hv1 hm2 hv2 c0 c1 d0 d1 hlr hmr
    go_upto_region 6 with fail
    have hbd : Below wr.heap.size wr wr.drew := (Below.refl _ _).drew
    obtain ⟨a0, a1, d0, d1⟩ := HS.out _ hbd
    have HQ : Hid (∃ q, q = sameSt x y) := ⟨_, rfl⟩
    obtain ⟨q, hq⟩ := HQ.out
    have HQ := Lib.hid hq
    rw [← hq] at HCS
    clear hq
    go_cut [26] (fun s26 W => s26 = .bool (!q) ∧ Below wr.heap.size wr W)
    case first =>
      go_region_held3 (fun W => W.cell? ⟨b, o + k * 2, none⟩ = some (.slice Ax x.marks.length cx) ∧ W.cell? ⟨b, o + k * 2 + 1, none⟩ = some (.slice Ay x.vals.length cy) ∧ W.cell? ⟨b2, o2 + k * 2, none⟩ = some (.slice Bx y.marks.length dx) ∧ W.cell? ⟨b2, o2 + k * 2 + 1, none⟩ = some (.slice By y.vals.length dy)) (first | exact HS.out _ (by assumption))
        (first | (go_at_call 16; (with_reducible refine (HCS.out _ (by assumption)).mono ?_); rintro e w6 ⟨rfl, hb6⟩))
      all_goals (go_wp2_with fail; go_meet)
      all_goals exact ⟨rfl, by assumption⟩
    case rest =>
      obtain ⟨rfl, hb6⟩ := hcut
      have hb6 := hbr.trans (hb6.mono hbr.size)
      clear HCS HS
      cases q
      · have HE : Hid (decide (l = m) = false) := by
          show _ = _
          rw [decide_eq_false_iff_not]
          rintro rfl
          have h1 := HX.out
          rw [HY.out] at h1
          injection h1 with h1
          have h2 := HQ.out
          rw [h1, sameSt_self] at h2
          cases h2
        go_wp2_with fail
        go_ret
        rw [HE.out]
        exact ⟨rfl, hb6⟩
      · have HE := Lib.hid (sameSt_iff.1 HQ.out.symm)
        go_wp2_with fail
        go_roundw
        case rel => exact ⟨k + 1, by omega, by go_num, fun j hj => by
          by_cases e : j = k
          · subst e
            rw [HX.out, HY.out, HE.out]
          · exact HP.out j (by omega), hb6⟩
        case measure => simp [intOf]; omega
theorem eqF_int {P : Program} {d t o : Nat} {xs ys : Array Value} {f : Field} {l : List Field} {q : Bool × Nat × Nat} {a b : Int} (hf : (f.name == "_", f.type, f.offset) = q) (hq : q = (false, t, o)) (ht : P.underlying t = some (.int .i64)) (hx : xs[o]? = some (.int .i64 a)) (hy : ys[o]? = some (.int .i64 b)) (W : World) :
    (Op.eqFields (d + 1) xs ys (f :: l)).run P W = if a == b then (Op.eqFields (d + 1) xs ys l).run P W else .ok false W := by
  rw [hq] at hf
  simp only [Prod.mk.injEq, beq_eq_false_iff_ne] at hf
  obtain ⟨h1, h2, h3⟩ := hf
  simp only [Op.eqFields, h1, h2, h3, ne_eq, not_false_eq_true, if_true]
  simp only [Sem.run_bind, part, isAgg, run_underlying ht, Result.andThen_ok, Sem.run_pure, Bool.false_eq_true, if_false, hx, hy, run_equalIn_int W d t .i64 .i64 a b ht]
  cases a == b <;> simp
theorem fieldsMv : ((Program.fieldsOf Tryz.prog 73).toList.map fun f => (f.name == "_", f.type, f.offset)) = [(false, 3, 0), (false, 3, 1), (false, 3, 2)] := by kernel_rfl
theorem mvNeq (a b c d e f : Int) (W : World) : (binOp .neq 73 (.agg #[.int .i64 a, .int .i64 b, .int .i64 c]) (.agg #[.int .i64 d, .int .i64 e, .int .i64 f])).run Tryz.prog W = .ok (.bool (!(a == d && (b == e && c == f)))) W := by
  rw [run_neq_struct, show (10000 : Nat) = 9998 + 1 + 1 from rfl, run_equalIn_agg (ht := by kernel_rfl) (hp := by kernel_rfl)]
  have hF := fieldsMv
  generalize (Program.fieldsOf Tryz.prog 73).toList = L at hF
  rcases L with _ | ⟨f1, L⟩
  · simp at hF
  rcases L with _ | ⟨f2, L⟩
  · simp at hF
  rcases L with _ | ⟨f3, L⟩
  · simp at hF
  rcases L with _ | ⟨f4, L⟩
  · rw [List.map_cons, List.map_cons, List.map_cons, List.map_nil] at hF
    injection hF with e1 hF
    injection hF with e2 hF
    injection hF with e3 hF
    have hi : Program.underlying Tryz.prog 3 = some (.int .i64) := by kernel_rfl
    rw [eqF_int e1 rfl hi rfl rfl, eqF_int e2 rfl hi rfl rfl, eqF_int e3 rfl hi rfl rfl]
    cases a == d <;> cases b == e <;> cases c == f <;> simp [Op.eqFields]
  · simp at hF
theorem mvSame (x y : Mv) : ((x.src : Int) == (y.src : Int) && ((x.dst : Int) == (y.dst : Int) && (x.sym : Int) == (y.sym : Int))) = decide (x = y) := by
  obtain ⟨a, b, c⟩ := x
  obtain ⟨d, e, f⟩ := y
  rw [Bool.eq_iff_iff]
  simp only [Bool.and_eq_true, beq_iff_eq, decide_eq_true_eq, Mv.mk.injEq]
  omega
set_option maxHeartbeats 4000000 in
set_option maxRecDepth 100000 in
theorem sameMoves_ref (l m : List Mv) (lv mv : Value) (w : World) (hl : SlM (Lt w.heap.size) w lv l) (hm : SlM (Lt w.heap.size) w mv m) :
    Calls Tryz.prog 20 #[lv, mv] w fun e w' => e = .returned (.bool (decide (l = m))) ∧ Below w.heap.size w w' := by
  obtain ⟨Al, cl, rfl, l1, l2, hl⟩ := Sl.open_ hl
  have hl : SlM (Lt w.heap.size) w (.slice Al l.length cl) l := hl
  obtain ⟨Bl, dl, rfl, m1, m2, hm⟩ := Sl.open_ hm
  have hm : SlM (Lt w.heap.size) w (.slice Bl m.length dl) m := hm
  by_cases hne : l.length = m.length
  rotate_left
  · have HE : Hid (decide (l = m) = false) := by show _ = _; rw [decide_eq_false_iff_not]; exact fun e => hne (by rw [e])
    have t1 : ((l.length : Int) != (m.length : Int)) = true := by simp; omega
    clear hne hl hm
    go_enter Tryz.func20, Tryz.ntmps20
    go_wp2_with fail
    go_ret
    rw [HE.out]
    exact ⟨rfl, Below.refl _ _⟩
  have t1 : ((l.length : Int) != (m.length : Int)) = false := by simp [hne]
  have HN := Lib.hid hne
  have hne2 : l.length ≤ m.length := by omega
  clear hne
  go_enter Tryz.func20, Tryz.ntmps20
  go_wp2_with fail
  clear t1
  go_loopw [5] (fun i wr => ∃ k : Nat, k ≤ l.length ∧ i = .int .i64 k ∧ (∀ j, j < k → l[j]? = m[j]?) ∧ Below w.heap.size w wr) (fun i _ => l.length - (intOf i).toNat)
  case atStart => exact ⟨0, Nat.zero_le _, rfl, fun j h => absurd h (by omega), Below.refl _ _⟩
  case round =>
    obtain ⟨k, hk, rfl, hp, hbr⟩ := hrel
    have HP := Lib.hid hp
    clear hp
    by_cases hlt : k < l.length
    rotate_left
    · have HE : Hid (decide (l = m) = true) := by show _ = _; rw [decide_eq_true_iff]; exact eq_of_gets HN.out (fun j hj => HP.out j (by omega))
      go_wp2_with fail
      go_ret
      rw [HE.out]
      exact ⟨rfl, hbr⟩
    have hlr := hl.now hbr
    have hmr := hm.now hbr
    obtain ⟨b, o, x, rfl, hD, hx, hsx, c0, c1, c2⟩ := hlr.at_ hlt
    obtain ⟨b2, o2, y, rfl, hD2, hy, hsy, d0, d1, d2⟩ := hmr.at_ (k := k) (by omega)
    have HX := Lib.hid hx
    have HY := Lib.hid hy
    have i1 : (0 : Int) ≤ (k : Int) := by omega
    have i2 : (k : Int) < (l.length : Int) := by omega
    have i3 : (k : Int) < (m.length : Int) := by omega
    have hbd : ∀ q, Below w.heap.size w (wr.drewN q) := fun q => hbr.trans (bdrawn (Below.refl _ _) q)
    have HBD := Lib.hid hbd
    clear hx hy hD hD2 hlr hmr hbd
    have hne : ∀ W, (binOp .neq 73 (.agg #[.int .i64 (x.src : Int), .int .i64 (x.dst : Int), .int .i64 (x.sym : Int)]) (.agg #[.int .i64 (y.src : Int), .int .i64 (y.dst : Int), .int .i64 (y.sym : Int)])).run Tryz.prog W = .ok (.bool (!(decide (x = y)))) W := fun W => by rw [mvNeq, mvSame]
    by_cases hxy : x = y
    · have HE := Lib.hid hxy
      rw [decide_eq_true hxy] at hne
      clear hxy
      simp only [Bool.not_true] at hne
      go_upto_region 6 with fail
      go_quiet (fail)
      go_wp2_with fail
      go_roundw
      case rel => exact ⟨k + 1, by omega, by go_num, fun j hj => by
        by_cases e : j = k
        · subst e
          rw [HX.out, HY.out, HE.out]
        · exact HP.out j (by omega), HBD.out _⟩
      case measure => simp [intOf]; omega
    · have HE : Hid (decide (l = m) = false) := by
        show _ = _
        rw [decide_eq_false_iff_not]
        rintro rfl
        have h1 := HX.out
        rw [HY.out] at h1
        injection h1 with h1
        exact hxy h1.symm
      rw [decide_eq_false hxy] at hne
      clear hxy
      simp only [Bool.not_false] at hne
      go_upto_region 6 with fail
      go_quiet (fail)
      go_wp2_with fail
      go_ret
      rw [HE.out]
      exact ⟨rfl, HBD.out _⟩
end Go.Proofs.YtlmenhjlgmejkaaGreatDoor
