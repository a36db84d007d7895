/- Merged texts. -/
import Derived.ProofKit
import Derived.Deep.Slices
import Derived.Deep.Fields
import Derived.Deep.Strs
import Derived.ChangeSame
import Derived.Lib.SmallJoins
import Derived.LaidMore
import Derived.OpenShut
import Derived.Stop.Joined
import Derived.Test.YtlmenhjlgmejkaaGreatDoorPl24
set_option linter.all false
namespace Go.Proofs.YtlmenhjlgmejkaaGreatDoor
open Go.RowKit
def R8 : ElemR Int := fun _ _ z cs => cs = [.int .u8 z] ∧ 0 ≤ z ∧ z ≤ 255
theorem R8.kept : ElemR.Kept R8 := fun _ _ _ _ _ _ _ _ h => h
def Sl8 := Sl 1 R8
theorem Sl8.now {w w' : World} {u : Value} {zs : List Int} (h : Sl8 (Lt w.heap.size) w u zs) (hb : Below w.heap.size w w') : Sl8 (Lt w'.heap.size) w' u zs := Sl.below h R8.kept hb hb.size
def RetTrue (w : World) (e : Ending) (w' : World) : Prop := e = .returned (.bool true) ∧ Below w.heap.size w w'
structure Raw6 where
  val : List Value
  property : val.length = 6 ∧ ∀ u ∈ val, u.oneCell' = true
def RRaw : ElemR Raw6 := fun _ _ y c => c = y.val
theorem RRaw.kept : ElemR.Kept RRaw := fun _ _ _ _ _ _ _ _ h => h
def cellsRaw (r : Raw6) : List Value := r.val
theorem appExs : AppInfo Tryz.prog 27 65 6 := AppInfo.mk' (z := .agg #[.int .i64 0, .int .i64 0, .int .i64 0, .string ⟨#[]⟩, .string ⟨#[]⟩, .slice none 0 0]) (bytes := 80) Tryz.underlying27 (by kernel_rfl) (by decide) rfl (by decide)
def put6 (w : World) (g k : Nat) (u0 u1 u2 u3 u4 u5 : Value) : World := (((((w.setCell ⟨g, k * 6, none⟩ u0).setCell ⟨g, k * 6 + 1, none⟩ u1).setCell ⟨g, k * 6 + 2, none⟩ u2).setCell ⟨g, k * 6 + 3, none⟩ u3).setCell ⟨g, k * 6 + 4, none⟩ u4).setCell ⟨g, k * 6 + 5, none⟩ u5
section
variable {w w1 : World} {base g h k cap : Nat} {u0 u1 u2 u3 u4 u5 : Value} {rows : List Raw6}
end
theorem dn_parts {n : Nat} {D : Nat → Prop} {w : World} {a b c d e f g h : Value} {t : DNet} (hd : IsDn n D w (.agg #[a, b, c, d, e, f, g, h]) t) : IsNet D w (.agg #[a, b, c, d]) t.net ∧ SlX D w e t.vars ∧ SlV D w f t.init ∧ SlE n D w g t.guards ∧ SlWW n D w h t.writes := by
  obtain ⟨tv, xv, iv, gv, wv, ev, p1, p2, p3, p4, p5⟩ := hd
  simp only [Value.agg.injEq, Array.mk.injEq, List.cons.injEq, and_true] at ev
  obtain ⟨rfl, rfl, rfl, rfl, rfl, rfl, rfl, rfl⟩ := ev
  exact ⟨p1, p2, p3, p4, p5⟩
theorem SlW.up {n m : Nat} (h : n ≤ m) {D : Nat → Prop} {w : World} {u : Value} {zs : List Wr} (hs : SlW n D w u zs) : SlW m D w u zs := by
  obtain ⟨A, c, hv, h4, h5, h6⟩ := hs
  refine ⟨A, c, hv, h4, h5, fun i y hy => ?_⟩
  obtain ⟨b, o, cs', hA, hD, hl, ⟨lv, e, hf, lv', he, a1, a2, a3, a4⟩, hc⟩ := h6 i y hy
  exact ⟨b, o, cs', hA, hD, hl, ⟨lv, e, hf, lv', he, a1, a2, a3, SlE.up h a4⟩, hc⟩
theorem SlWW.up {n m : Nat} (h : n ≤ m) {D : Nat → Prop} {w : World} {u : Value} {zs : List (List Wr)} (hs : SlWW n D w u zs) : SlWW m D w u zs := by
  obtain ⟨A, c, hv, h4, h5, h6⟩ := hs
  refine ⟨A, c, hv, h4, h5, fun i y hy => ?_⟩
  obtain ⟨b, o, cs', hA, hD, hl, ⟨v, e, hf⟩, hc⟩ := h6 i y hy
  exact ⟨b, o, cs', hA, hD, hl, ⟨v, e, SlW.up h hf⟩, hc⟩
set_option maxHeartbeats 1000000 in
theorem sameRow_ref (u v : Value) (xs ys : List Int) (w : World) (hu : SlI (Lt w.heap.size) w u xs) (hv : SlI (Lt w.heap.size) w v ys) :
    Calls Tryz.prog 140 #[u, v] w fun e w' => e = .returned (.bool (xs == ys)) ∧ ∃ q, w' = w.drewN q := by
  obtain ⟨A, c, rfl, h1, h2, hu⟩ := hu.open_
  obtain ⟨A', c', rfl, h1', h2', hv⟩ := hv.open_
  by_cases hl : xs.length = ys.length
  · have hl' : ((xs.length : Int) != (ys.length : Int)) = false := by simp [hl]
    have HL := Lib.hid hl
    have hle1 : xs.length ≤ ys.length := by omega
    clear hl
    go_enter Tryz.func140, Tryz.ntmps140
    go_wp2_with fail
    go_loopw [5] (fun i wr => ∃ k q : Nat, k ≤ xs.length ∧ i = .int .i64 k ∧ (∀ j, j < k → xs[j]? = ys[j]?) ∧ wr = w.drewN q) (fun i _ => xs.length - (intOf i).toNat)
    case atStart => exact ⟨0, 0, Nat.zero_le _, rfl, fun j h => absurd h (by omega), rfl⟩
    case round =>
      obtain ⟨k, q, hk, rfl, hp, rfl⟩ := hrel
      have HP := Lib.hid hp
      clear hp
      have hu' : SlI (Lt (w.drewN q).heap.size) (w.drewN q) (.slice A xs.length c) xs := hu
      have hv' : SlI (Lt (w.drewN q).heap.size) (w.drewN q) (.slice A' ys.length c') ys := hv
      by_cases hlt : k < xs.length
      · obtain ⟨b, o, x, rfl, hD, hx, hf, hcell⟩ := hu'.at_ hlt
        obtain ⟨b', o', y, rfl, hD', hy, hf', hcell'⟩ := hv'.at_ (k := k) (by omega)
        have i1 : (0 : Int) ≤ k := by omega
        have i2 : (k : Int) < (xs.length : Int) := by omega
        have i3 : (k : Int) < (ys.length : Int) := by omega
        have HX := Lib.hid hx
        have HY := Lib.hid hy
        generalize hwd : w.drewN q = wd at *
        have HW := Lib.hid hwd
        clear hwd hu' hv' hx hy hD hD'
        by_cases hxy : x = y
        · have t1 : (x != y) = false := by simpa using hxy
          have HXY := Lib.hid hxy
          clear hxy
          go_wp2
          go_quiet (fail)
          go_wp2
          go_roundw
          case rel => exact ⟨k + 1, _, by omega, by go_num, fun j hj => by
            by_cases e : j = k
            · subst e; rw [HX.out, HY.out, HXY.out]
            · exact HP.out j (by omega), by rw [← HW.out]; exact drewN_add' _ _ _⟩
          case measure => simp [intOf]; omega
        · have t1 : (x != y) = true := by simpa using hxy
          have HE : Hid ((xs == ys) = false) := by
            show (xs == ys) = false
            rw [beq_eq_false_iff_ne]
            intro e
            have hX := HX.out
            rw [e, HY.out] at hX
            injection hX with hX
            exact hxy hX.symm
          clear hxy
          go_wp2
          go_quiet (fail)
          go_wp2
          go_ret
          exact ⟨ret_bool HE.out.symm, _, by rw [← HW.out]; exact drewN_add' _ _ _⟩
      · have HE : Hid ((xs == ys) = true) := by
          show (xs == ys) = true
          rw [beq_iff_eq]
          exact eq_of_gets HL.out (fun j hj => HP.out j (by omega))
        go_wp2
        go_ret
        exact ⟨ret_bool HE.out.symm, q, rfl⟩
  · have hl' : ((xs.length : Int) != (ys.length : Int)) = true := by simp; omega
    have HE : Hid ((xs == ys) = false) := by
      show (xs == ys) = false
      rw [beq_eq_false_iff_ne]
      exact fun e => hl (by rw [e])
    clear hl
    go_enter Tryz.func140, Tryz.ntmps140
    go_wp2_with fail
    go_ret
    exact ⟨ret_bool HE.out.symm, 0, rfl⟩
theorem run_neqV_self (W : World) (v : Val) : (binOp .neq 63 (.agg #[.int .i64 v.kind, .int .i64 v.n, .string v.s]) (.agg #[.int .i64 v.kind, .int .i64 v.n, .string v.s])).run Tryz.prog W = .ok (.bool false) W := by
  have h := run_eqV W v v
  rw [run_eql_struct] at h
  rw [run_neq_struct]
  rw [decide_eq_true rfl] at h
  revert h
  generalize (Op.equalIn 10000 63 (.agg #[.int .i64 v.kind, .int .i64 v.n, .string v.s]) (.agg #[.int .i64 v.kind, .int .i64 v.n, .string v.s])).run Tryz.prog W = r
  intro h
  cases r with
  | ok b w' =>
    simp only [Result.andThen, Result.ok.injEq, Value.bool.injEq] at h ⊢
    obtain ⟨rfl, rfl⟩ := h
    simp
  | halt x w' => simp [Result.andThen] at h
set_option maxHeartbeats 4000000 in
set_option maxRecDepth 100000 in
theorem same10_leaf (n m : Nat) (x : Ex) (u v : Value) (w : World) (hu : IsEx n (Lt w.heap.size) w u x) (hv : IsEx m (Lt w.heap.size) w v x) (hx : x.l = []) :
    Calls Tryz.prog 97 #[u, v] w fun e w' => e = .returned (.bool true) ∧ Below w.heap.size w w' := by
  obtain ⟨lv, rfl, _, _, _, A, c, rfl, _⟩ := hu
  obtain ⟨lv', rfl, _, _, _, A', c', rfl, _⟩ := hv
  rw [hx]
  clear hx
  have hb0 := bone w (.cells #[.int .i64 x.op, .int .i64 x.v.kind, .int .i64 x.v.n, .string x.v.s, .string x.s, .slice A ([] : List Ex).length c] 65)
  have hb := bbox hb0 (.cells #[.int .i64 x.op, .int .i64 x.v.kind, .int .i64 x.v.n, .string x.v.s, .string x.s, .slice A' ([] : List Ex).length c'] 65)
  have hB := (Blk.new w 65 #[.int .i64 x.op, .int .i64 x.v.kind, .int .i64 x.v.n, .string x.v.s, .string x.s, .slice A ([] : List Ex).length c]).alloc (.cells #[.int .i64 x.op, .int .i64 x.v.kind, .int .i64 x.v.n, .string x.v.s, .string x.s, .slice A' ([] : List Ex).length c'] 65)
  have hC := (Blk.new_at (t := 65) (cs := #[.int .i64 x.op, .int .i64 x.v.kind, .int .i64 x.v.n, .string x.v.s, .string x.s, .slice A' ([] : List Ex).length c']) (w := w.alloc (.cells #[.int .i64 x.op, .int .i64 x.v.kind, .int .i64 x.v.n, .string x.v.s, .string x.s, .slice A ([] : List Ex).length c] 65)) (s := w.heap.size + 1) (by simp))
  have hneq := fun W => run_neqV_self W x.v
  have h1 : (x.op != x.op) = false := bne_self_eq_false _
  have h2 : (x.s.toList == x.s.toList) = true := beq_self_eq_true _
  dsimp only [List.length_nil] at hB hC hb ⊢
  go_enter Tryz.func97, Tryz.ntmps97
  go_upto_region 1 with fail
  generalize hw1 : (w.alloc (.cells #[.int .i64 x.op, .int .i64 x.v.kind, .int .i64 x.v.n, .string x.v.s, .string x.s, .slice A 0 c] 65)).alloc (.cells #[.int .i64 x.op, .int .i64 x.v.kind, .int .i64 x.v.n, .string x.v.s, .string x.s, .slice A' 0 c'] 65) = w1 at *
  clear hw1 hb0
  obtain ⟨y0, y1, y2, y3, y4, y5⟩ := hB.c6
  obtain ⟨z0, z1, z2, z3, z4, z5⟩ := hC.c6
  go_wp2_with fail
  go_loopw [5] (fun i wr => i = .int .i64 0 ∧ Below w1.heap.size w1 wr) (fun _ _ => 0)
  case atStart => exact ⟨rfl, Below.refl _ _⟩
  case round =>
    obtain ⟨rfl, hbr⟩ := hrel
    clear y0 y1 y2 y3 y4 y5 z0 z1 z2 z3 z4 z5
    obtain ⟨y0, y1, y2, y3, y4, y5⟩ := (hB.now hbr).c6
    go_wp2_with fail
    go_ret
    exact ⟨rfl, bthen hb hbr⟩
set_option maxHeartbeats 8000000 in
set_option maxRecDepth 100000 in
theorem same21_self (n : Net) (u v : Value) (w : World) (hu : IsNet (Lt w.heap.size) w u n) (hv : IsNet (Lt w.heap.size) w v n) :
    Calls Tryz.prog 96 #[u, v] w fun e w' => e = .returned (.bool true) ∧ Below w.heap.size w w' := by
  obtain ⟨tv, rfl, _, _, _, hu⟩ := hu
  obtain ⟨tv', rfl, _, _, _, hv⟩ := hv
  obtain ⟨Ta, cTa, rfl, _, _, hu⟩ := hu.open_
  obtain ⟨Tb, cTb, rfl, _, _, hv⟩ := hv.open_
  have hb0 := bone w (.cells #[.int .i64 n.places, .slice Ta n.trans.length cTa, .int .i64 n.source, .int .i64 n.sink] 24)
  have hb := bbox hb0 (.cells #[.int .i64 n.places, .slice Tb n.trans.length cTb, .int .i64 n.source, .int .i64 n.sink] 24)
  have hB := (Blk.new w 24 #[.int .i64 n.places, .slice Ta n.trans.length cTa, .int .i64 n.source, .int .i64 n.sink]).alloc (.cells #[.int .i64 n.places, .slice Tb n.trans.length cTb, .int .i64 n.source, .int .i64 n.sink] 24)
  have hC := (Blk.new_at (t := 24) (cs := #[.int .i64 n.places, .slice Tb n.trans.length cTb, .int .i64 n.source, .int .i64 n.sink]) (w := w.alloc (.cells #[.int .i64 n.places, .slice Ta n.trans.length cTa, .int .i64 n.source, .int .i64 n.sink] 24)) (s := w.heap.size + 1) (by simp))
  have hu1 := hu.now hb
  have hv1 := hv.now hb
  have h1 : (n.places != n.places) = false := bne_self_eq_false _
  have h2 : (n.source != n.source) = false := bne_self_eq_false _
  have h3 : (n.sink != n.sink) = false := bne_self_eq_false _
  have h4 : ((n.trans.length : Int) != (n.trans.length : Int)) = false := bne_self_eq_false _
  clear hu hv hb0
  go_enter Tryz.func96, Tryz.ntmps96
  go_upto_region 1 with fail
  generalize hw1 : (w.alloc (.cells #[.int .i64 n.places, .slice Ta n.trans.length cTa, .int .i64 n.source, .int .i64 n.sink] 24)).alloc (.cells #[.int .i64 n.places, .slice Tb n.trans.length cTb, .int .i64 n.source, .int .i64 n.sink] 24) = w1 at *
  clear hw1
  obtain ⟨y0, y1, y2, y3⟩ := hB.c4
  obtain ⟨z0, z1, z2, z3⟩ := hC.c4
  go_wp2_with fail
  clear h1 h2 h3 h4
  go_loopw [5] (fun i wr => ∃ k : Nat, k ≤ n.trans.length ∧ i = .int .i64 k ∧ Below w1.heap.size w1 wr) (fun i _ => n.trans.length - (intOf i).toNat)
  case atStart => exact ⟨0, Nat.zero_le _, rfl, Below.refl _ _⟩
  case round =>
    obtain ⟨k, hk, rfl, hbr⟩ := hrel
    clear y0 y1 y2 y3 z0 z1 z2 z3
    have hBr := hB.now hbr
    have hCr := hC.now hbr
    obtain ⟨y0, y1, y2, y3⟩ := hBr.c4
    obtain ⟨z0, z1, z2, z3⟩ := hCr.c4
    by_cases hlt : k < n.trans.length
    rotate_left
    · go_wp2_with fail
      go_ret
      exact ⟨rfl, bthen hb hbr⟩
    obtain ⟨b, o, t, iv, ov, rfl, hD, ht, _, hi, ho, e0, e1, e2⟩ := (hu1.now hbr).at_ hlt
    obtain ⟨b2, o2, t', iv', ov', rfl, hD2, ht', _, hi', ho', f0, f1, f2⟩ := (hv1.now hbr).at_ hlt
    obtain rfl : t = t' := by rw [ht] at ht'; injection ht'
    obtain ⟨I1, c1, rfl, _, _, hi⟩ := hi.open_
    obtain ⟨O1, c2, rfl, _, _, ho⟩ := ho.open_
    obtain ⟨I2, c3, rfl, _, _, hi'⟩ := hi'.open_
    obtain ⟨O2, c4, rfl, _, _, ho'⟩ := ho'.open_
    have HS : Hid (∀ W, Below wr.heap.size wr W → W.cell? ⟨w.heap.size, 1, none⟩ = some (.slice (some ⟨b, o, none⟩) n.trans.length cTa) ∧ W.cell? ⟨w.heap.size + 1, 1, none⟩ = some (.slice (some ⟨b2, o2, none⟩) n.trans.length cTb) ∧ W.cell? ⟨b, o + k * 3, none⟩ = some (.string t.label) ∧ W.cell? ⟨b, o + k * 3 + 1, none⟩ = some (.slice I1 t.ins.length c1) ∧ W.cell? ⟨b, o + k * 3 + 2, none⟩ = some (.slice O1 t.outs.length c2) ∧ W.cell? ⟨b2, o2 + k * 3, none⟩ = some (.string t.label) ∧ W.cell? ⟨b2, o2 + k * 3 + 1, none⟩ = some (.slice I2 t.ins.length c3) ∧ W.cell? ⟨b2, o2 + k * 3 + 2, none⟩ = some (.slice O2 t.outs.length c4)) := fun W hW => ⟨(hBr.now hW).c4.2.1, (hCr.now hW).c4.2.1, (hW.cell (p := ⟨b, _, none⟩) hD).trans e0, (hW.cell (p := ⟨b, _, none⟩) hD).trans e1, (hW.cell (p := ⟨b, _, none⟩) hD).trans e2, (hW.cell (p := ⟨b2, _, none⟩) hD2).trans f0, (hW.cell (p := ⟨b2, _, none⟩) hD2).trans f1, (hW.cell (p := ⟨b2, _, none⟩) hD2).trans f2⟩
    have HCA : Hid (∀ W, Below wr.heap.size wr W → Calls Tryz.prog 140 #[.slice I1 t.ins.length c1, .slice I2 t.ins.length c3] W fun e w' => e = .returned (.bool true) ∧ Below wr.heap.size wr w') := fun W hW => by
      refine (sameRow_ref _ _ _ _ W (hi.now hW) (hi'.now hW)).mono ?_
      rintro e w' ⟨rfl, q, rfl⟩
      exact ⟨by rw [beq_self_eq_true], bdrawn hW q⟩
    have HCB : Hid (∀ W, Below wr.heap.size wr W → Calls Tryz.prog 140 #[.slice O1 t.outs.length c2, .slice O2 t.outs.length c4] W fun e w' => e = .returned (.bool true) ∧ Below wr.heap.size wr w') := fun W hW => by
      refine (sameRow_ref _ _ _ _ W (ho.now hW) (ho'.now hW)).mono ?_
      rintro e w' ⟨rfl, q, rfl⟩
      exact ⟨by rw [beq_self_eq_true], bdrawn hW q⟩
    have i1 : (0 : Int) ≤ (k : Int) := by omega
    have i2 : (k : Int) < (n.trans.length : Int) := by omega
    have h2 : (t.label.toList == t.label.toList) = true := beq_self_eq_true _
    clear ht ht' hi hi' ho ho' e0 e1 e2 f0 f1 f2 hD hD2
    go_upto_region 6 with fail
    clear y0 y1 y2 y3 z0 z1 z2 z3 hBr hCr
    go_cut [85] (fun s85 W => s85 = .bool false ∧ Below wr.heap.size wr W)
    case first =>
      have hbd : Below wr.heap.size wr wr.drew := (Below.refl _ _).drew
      obtain ⟨a0, a1, d0, d1, d2, d3, d4, d5⟩ := HS.out _ hbd
      go_region_held3 (fun W => W.cell? ⟨w.heap.size, 1, none⟩ = some (.slice (some ⟨b, o, none⟩) n.trans.length cTa) ∧ W.cell? ⟨w.heap.size + 1, 1, none⟩ = some (.slice (some ⟨b2, o2, none⟩) n.trans.length cTb) ∧ W.cell? ⟨b, o + k * 3, none⟩ = some (.string t.label) ∧ W.cell? ⟨b, o + k * 3 + 1, none⟩ = some (.slice I1 t.ins.length c1) ∧ W.cell? ⟨b, o + k * 3 + 2, none⟩ = some (.slice O1 t.outs.length c2) ∧ W.cell? ⟨b2, o2 + k * 3, none⟩ = some (.string t.label) ∧ W.cell? ⟨b2, o2 + k * 3 + 1, none⟩ = some (.slice I2 t.ins.length c3) ∧ W.cell? ⟨b2, o2 + k * 3 + 2, none⟩ = some (.slice O2 t.outs.length c4)) (first | exact HS.out _ (by assumption))
        (first | (go_at_call 140; (first | (with_reducible refine (HCA.out _ (by assumption)).mono ?_) | (with_reducible refine (HCB.out _ (by assumption)).mono ?_)); rintro e wa ⟨rfl, hba⟩))
      all_goals (go_wp2_with fail; go_meet)
      all_goals exact ⟨rfl, by assumption⟩
    case rest =>
      obtain ⟨rfl, hb6⟩ := hcut
      clear HS HCA HCB
      go_wp2_with fail
      go_roundw
      case rel => exact ⟨k + 1, by omega, by go_num, hbr.trans (hb6.mono hbr.size)⟩
      case measure => simp [intOf]; omega
set_option maxHeartbeats 16000000 in
set_option maxRecDepth 100000 in
theorem sameNet_plain (n m : Nat) (d : DNet) (u v : Value) (w : World) (hu : IsDn n (Lt w.heap.size) w u d) (hv : IsDn m (Lt w.heap.size) w v d) (hg : ∀ x ∈ d.guards, x.l = []) (hw : ∀ r ∈ d.writes, r = []) :
    Calls Tryz.prog 52 #[u, v] w fun e w' => e = .returned (.bool true) ∧ Below w.heap.size w w' := by
  have hu0 := hu
  have hv0 := hv
  obtain ⟨At, ct, Ax, cx, iv, Ag, cg, Aw, cw, rfl, _, _, a3, _, _, _, _, _, _, _⟩ := hu.open_
  obtain ⟨Bt, dt, Bx, dx, iv', Bg, dg, Bw, dw, rfl, _, _, b3, _, _, _, _, _, _, _⟩ := hv.open_
  obtain ⟨Ai, ci, rfl, _, _, a3⟩ := Sl.open_ a3
  obtain ⟨Bi, di, rfl, _, _, b3⟩ := Sl.open_ b3
  have HG := Lib.hid hg
  have HW := Lib.hid hw
  have hb0 := bone w (.cells #[.int .i64 d.net.places, .slice At d.net.trans.length ct, .int .i64 d.net.source, .int .i64 d.net.sink, .slice Ax d.vars.length cx, .slice Ai d.init.length ci, .slice Ag d.guards.length cg, .slice Aw d.writes.length cw] 30)
  have hb := bbox hb0 (.cells #[.int .i64 d.net.places, .slice Bt d.net.trans.length dt, .int .i64 d.net.source, .int .i64 d.net.sink, .slice Bx d.vars.length dx, .slice Bi d.init.length di, .slice Bg d.guards.length dg, .slice Bw d.writes.length dw] 30)
  have hB := (Blk.new w 30 #[.int .i64 d.net.places, .slice At d.net.trans.length ct, .int .i64 d.net.source, .int .i64 d.net.sink, .slice Ax d.vars.length cx, .slice Ai d.init.length ci, .slice Ag d.guards.length cg, .slice Aw d.writes.length cw]).alloc (.cells #[.int .i64 d.net.places, .slice Bt d.net.trans.length dt, .int .i64 d.net.source, .int .i64 d.net.sink, .slice Bx d.vars.length dx, .slice Bi d.init.length di, .slice Bg d.guards.length dg, .slice Bw d.writes.length dw] 30)
  have hC := (Blk.new_at (t := 30) (cs := #[.int .i64 d.net.places, .slice Bt d.net.trans.length dt, .int .i64 d.net.source, .int .i64 d.net.sink, .slice Bx d.vars.length dx, .slice Bi d.init.length di, .slice Bg d.guards.length dg, .slice Bw d.writes.length dw]) (w := w.alloc (.cells #[.int .i64 d.net.places, .slice At d.net.trans.length ct, .int .i64 d.net.source, .int .i64 d.net.sink, .slice Ax d.vars.length cx, .slice Ai d.init.length ci, .slice Ag d.guards.length cg, .slice Aw d.writes.length cw] 30)) (s := w.heap.size + 1) (by simp))
  have hu1 := hu0.now hb
  have hv1 := hv0.now hb
  have h4 : ((d.guards.length : Int) != (d.guards.length : Int)) = false := bne_self_eq_false _
  have h5 : ((d.writes.length : Int) != (d.writes.length : Int)) = false := bne_self_eq_false _
  clear hu hv hu0 hv0 hb0 a3 b3 hg hw
  obtain ⟨pn, _, pi, pg, pw⟩ := dn_parts hu1
  obtain ⟨qn, _, qi, qg, qw⟩ := dn_parts hv1
  go_enter Tryz.func52, Tryz.ntmps52
  go_upto_region 1 with fail
  generalize hw1 : (w.alloc (.cells #[.int .i64 d.net.places, .slice At d.net.trans.length ct, .int .i64 d.net.source, .int .i64 d.net.sink, .slice Ax d.vars.length cx, .slice Ai d.init.length ci, .slice Ag d.guards.length cg, .slice Aw d.writes.length cw] 30)).alloc (.cells #[.int .i64 d.net.places, .slice Bt d.net.trans.length dt, .int .i64 d.net.source, .int .i64 d.net.sink, .slice Bx d.vars.length dx, .slice Bi d.init.length di, .slice Bg d.guards.length dg, .slice Bw d.writes.length dw] 30) = w1 at *
  clear hw1
  obtain ⟨y0, y1, y2, y3, y4, y5, y6, y7⟩ := hB.c8
  obtain ⟨z0, z1, z2, z3, z4, z5, z6, z7⟩ := hC.c8
  have HR1 := Lib.hid (same21_self d.net _ _ w1 pn qn)
  go_wp2_with fail
  refine HR1.out.mono ?_
  rintro e w2 ⟨rfl, hb2⟩
  clear HR1 y0 y1 y2 y3 y4 y5 y6 y7 z0 z1 z2 z3 z4 z5 z6 z7
  obtain ⟨y0, y1, y2, y3, y4, y5, y6, y7⟩ := (hB.now hb2).c8
  obtain ⟨z0, z1, z2, z3, z4, z5, z6, z7⟩ := (hC.now hb2).c8
  have HR2 := same_ref _ _ d.init d.init w2 (pi.now hb2) (qi.now hb2)
  rw [decide_eq_true rfl] at HR2
  have HR2 := Lib.hid HR2
  go_wp2_with fail
  refine HR2.out.mono ?_
  rintro e w3 ⟨rfl, hb3⟩
  have hb3 := bthen hb2 hb3
  clear HR2 hb2 y0 y1 y2 y3 y4 y5 y6 y7 z0 z1 z2 z3 z4 z5 z6 z7
  obtain ⟨y0, y1, y2, y3, y4, y5, y6, y7⟩ := (hB.now hb3).c8
  obtain ⟨z0, z1, z2, z3, z4, z5, z6, z7⟩ := (hC.now hb3).c8
  go_wp2_with fail
  clear h4 h5 y0 y1 y2 y3 y4 y5 y6 y7 z0 z1 z2 z3 z4 z5 z6 z7
  go_loopw [5] (fun i wr => ∃ k : Nat, k ≤ d.guards.length ∧ i = .int .i64 k ∧ Below w1.heap.size w1 wr) (fun i _ => d.guards.length - (intOf i).toNat)
  case atStart => exact ⟨0, Nat.zero_le _, rfl, hb3⟩
  case round =>
    obtain ⟨k, hk, rfl, hbr⟩ := hrel
    clear hb3
    have hBr := hB.now hbr
    have hCr := hC.now hbr
    obtain ⟨y0, y1, y2, y3, y4, y5, y6, y7⟩ := hBr.c8
    obtain ⟨z0, z1, z2, z3, z4, z5, z6, z7⟩ := hCr.c8
    by_cases hlt : k < d.guards.length
    · obtain ⟨b, o, x, lv1, n1, rfl, rfl, hD, hx, hix, _, _, e0, e1, e2, e3, e4, e5⟩ := SlE.at_ (SlE.now pg hbr) hlt
      obtain ⟨b2, o2, x', lv2, n2, rfl, rfl, hD2, hx', hix', _, _, f0, f1, f2, f3, f4, f5⟩ := SlE.at_ (SlE.now qg hbr) hlt
      obtain rfl : x = x' := by rw [hx] at hx'; injection hx'
      have hxl := HG.out x (List.mem_of_getElem? hx)
      obtain ⟨l1, cl1, rfl⟩ : ∃ A c, lv1 = .slice A x.l.length c := by obtain ⟨_, e, _, _, _, A, c, e2, _⟩ := hix; simp only [Value.agg.injEq, Array.mk.injEq, List.cons.injEq, and_true, true_and] at e; subst e; exact ⟨_, _, e2⟩
      obtain ⟨l2, cl2, rfl⟩ : ∃ A c, lv2 = .slice A x.l.length c := by obtain ⟨_, e, _, _, _, A, c, e2, _⟩ := hix'; simp only [Value.agg.injEq, Array.mk.injEq, List.cons.injEq, and_true, true_and] at e; subst e; exact ⟨_, _, e2⟩
      have HS : Hid (∀ W, Below wr.heap.size wr W → W.cell? ⟨w.heap.size, 6, none⟩ = some (.slice (some ⟨b, o, none⟩) d.guards.length cg) ∧ W.cell? ⟨w.heap.size + 1, 6, none⟩ = some (.slice (some ⟨b2, o2, none⟩) d.guards.length dg) ∧ W.cell? ⟨b, o + k * 6, none⟩ = some (.int .i64 x.op) ∧ W.cell? ⟨b, o + k * 6 + 1, none⟩ = some (.int .i64 x.v.kind) ∧ W.cell? ⟨b, o + k * 6 + 2, none⟩ = some (.int .i64 x.v.n) ∧ W.cell? ⟨b, o + k * 6 + 3, none⟩ = some (.string x.v.s) ∧ W.cell? ⟨b, o + k * 6 + 4, none⟩ = some (.string x.s) ∧ W.cell? ⟨b, o + k * 6 + 5, none⟩ = some (.slice l1 x.l.length cl1) ∧ W.cell? ⟨b2, o2 + k * 6, none⟩ = some (.int .i64 x.op) ∧ W.cell? ⟨b2, o2 + k * 6 + 1, none⟩ = some (.int .i64 x.v.kind) ∧ W.cell? ⟨b2, o2 + k * 6 + 2, none⟩ = some (.int .i64 x.v.n) ∧ W.cell? ⟨b2, o2 + k * 6 + 3, none⟩ = some (.string x.v.s) ∧ W.cell? ⟨b2, o2 + k * 6 + 4, none⟩ = some (.string x.s) ∧ W.cell? ⟨b2, o2 + k * 6 + 5, none⟩ = some (.slice l2 x.l.length cl2)) := fun W hW => ⟨(hBr.now hW).c8.2.2.2.2.2.2.1, (hCr.now hW).c8.2.2.2.2.2.2.1, (hW.cell (p := ⟨b, _, none⟩) hD).trans e0, (hW.cell (p := ⟨b, _, none⟩) hD).trans e1, (hW.cell (p := ⟨b, _, none⟩) hD).trans e2, (hW.cell (p := ⟨b, _, none⟩) hD).trans e3, (hW.cell (p := ⟨b, _, none⟩) hD).trans e4, (hW.cell (p := ⟨b, _, none⟩) hD).trans e5, (hW.cell (p := ⟨b2, _, none⟩) hD2).trans f0, (hW.cell (p := ⟨b2, _, none⟩) hD2).trans f1, (hW.cell (p := ⟨b2, _, none⟩) hD2).trans f2, (hW.cell (p := ⟨b2, _, none⟩) hD2).trans f3, (hW.cell (p := ⟨b2, _, none⟩) hD2).trans f4, (hW.cell (p := ⟨b2, _, none⟩) hD2).trans f5⟩
      have HCA : Hid (∀ W, Below wr.heap.size wr W → Calls Tryz.prog 97 #[.agg #[.int .i64 x.op, .int .i64 x.v.kind, .int .i64 x.v.n, .string x.v.s, .string x.s, .slice l1 x.l.length cl1], .agg #[.int .i64 x.op, .int .i64 x.v.kind, .int .i64 x.v.n, .string x.v.s, .string x.s, .slice l2 x.l.length cl2]] W fun e w' => e = .returned (.bool true) ∧ Below wr.heap.size wr w') := fun W hW => (same10_leaf _ _ x _ _ W (hix.now hW) (hix'.now hW) hxl).mono fun e w' ⟨he, hb'⟩ => ⟨he, bthen hW hb'⟩
      have i1 : (0 : Int) ≤ (k : Int) := by omega
      have i2 : (k : Int) < (d.guards.length : Int) := by omega
      clear hx hx' hix hix' hxl e0 e1 e2 e3 e4 e5 f0 f1 f2 f3 f4 f5 hD hD2
      go_upto_region 6 with fail
      clear y0 y1 y2 y3 y4 y5 y6 y7 z0 z1 z2 z3 z4 z5 z6 z7 hBr hCr
      go_cut [60] (fun s60 W => s60 = .bool false ∧ Below wr.heap.size wr W)
      case first =>
        have hbd : Below wr.heap.size wr wr.drew := (Below.refl _ _).drew
        obtain ⟨a0, a1, d0, d1, d2, d3, d4, d5, g0, g1, g2, g3, g4, g5⟩ := HS.out _ hbd
        go_region_held3 (fun W => W.cell? ⟨w.heap.size, 6, none⟩ = some (.slice (some ⟨b, o, none⟩) d.guards.length cg) ∧ W.cell? ⟨w.heap.size + 1, 6, none⟩ = some (.slice (some ⟨b2, o2, none⟩) d.guards.length dg) ∧ W.cell? ⟨b, o + k * 6, none⟩ = some (.int .i64 x.op) ∧ W.cell? ⟨b, o + k * 6 + 1, none⟩ = some (.int .i64 x.v.kind) ∧ W.cell? ⟨b, o + k * 6 + 2, none⟩ = some (.int .i64 x.v.n) ∧ W.cell? ⟨b, o + k * 6 + 3, none⟩ = some (.string x.v.s) ∧ W.cell? ⟨b, o + k * 6 + 4, none⟩ = some (.string x.s) ∧ W.cell? ⟨b, o + k * 6 + 5, none⟩ = some (.slice l1 x.l.length cl1) ∧ W.cell? ⟨b2, o2 + k * 6, none⟩ = some (.int .i64 x.op) ∧ W.cell? ⟨b2, o2 + k * 6 + 1, none⟩ = some (.int .i64 x.v.kind) ∧ W.cell? ⟨b2, o2 + k * 6 + 2, none⟩ = some (.int .i64 x.v.n) ∧ W.cell? ⟨b2, o2 + k * 6 + 3, none⟩ = some (.string x.v.s) ∧ W.cell? ⟨b2, o2 + k * 6 + 4, none⟩ = some (.string x.s) ∧ W.cell? ⟨b2, o2 + k * 6 + 5, none⟩ = some (.slice l2 x.l.length cl2)) (first | exact HS.out _ (by assumption))
          (first | (go_at_call 97; (with_reducible refine (HCA.out _ (by assumption)).mono ?_); rintro e wa ⟨rfl, hba⟩))
        all_goals (go_wp2_with fail; go_meet)
        all_goals exact ⟨rfl, by assumption⟩
      case rest =>
        obtain ⟨rfl, hb6⟩ := hcut
        clear HS HCA
        go_wp2_with fail
        go_roundw
        case rel => exact ⟨k + 1, by omega, by go_num, hbr.trans (hb6.mono hbr.size)⟩
        case measure => simp [intOf]; omega
    · obtain rfl : k = d.guards.length := by omega
      clear hlt
      go_wp2_with fail
      clear y0 y1 y2 y3 y4 y5 y6 y7 z0 z1 z2 z3 z4 z5 z6 z7 hBr hCr
      have hbr0 := hbr
      clear hbr
      go_loopw [6] (fun i wr => ∃ k : Nat, k ≤ d.writes.length ∧ i = .int .i64 k ∧ Below w1.heap.size w1 wr) (fun i _ => d.writes.length - (intOf i).toNat)
      case atStart => exact ⟨0, Nat.zero_le _, rfl, hbr0⟩
      case round =>
        obtain ⟨k, hk, rfl, hbr⟩ := hrel
        clear hbr0
        have hBr := hB.now hbr
        have hCr := hC.now hbr
        obtain ⟨y0, y1, y2, y3, y4, y5, y6, y7⟩ := hBr.c8
        obtain ⟨z0, z1, z2, z3, z4, z5, z6, z7⟩ := hCr.c8
        by_cases hlt : k < d.writes.length
        rotate_left
        · go_wp2_with fail
          go_ret
          exact ⟨rfl, bthen hb hbr⟩
        obtain ⟨b, o, r, vv1, rfl, hD, hr, hr1, e0⟩ := SlWW.at_ (SlWW.now pw hbr) hlt
        obtain ⟨b2, o2, r', vv2, rfl, hD2, hr', hr2, f0⟩ := SlWW.at_ (SlWW.now qw hbr) hlt
        have hre := HW.out r (List.mem_of_getElem? hr)
        have hre' := HW.out r' (List.mem_of_getElem? hr')
        subst hre hre'
        obtain ⟨l1, c1, rfl, _⟩ := hr1
        obtain ⟨l2, c2, rfl, _⟩ := hr2
        have i1 : (0 : Int) ≤ (k : Int) := by omega
        have i2 : (k : Int) < (d.writes.length : Int) := by omega
        have HBQ := Lib.hid (fun q => hbr.trans (Below.mono (bdrawn (Below.refl wr.heap.size wr) q) hbr.size))
        clear hr hr'
        go_upto_region 11 with fail
        go_quiet (fail)
        go_wp2_with fail
        generalize hwd : wr.drewN _ = wd
        have hbq : Below w1.heap.size w1 wd := by rw [← hwd]; exact HBQ.out _
        have e0' : wd.cell? ⟨b, o + k, none⟩ = some (.slice l1 ([] : List Wr).length c1) := by rw [← hwd]; exact e0
        clear HBQ hwd e0 f0 y0 y1 y2 y3 y4 y5 y6 y7 z0 z1 z2 z3 z4 z5 z6 z7 hBr hCr hbr
        obtain ⟨y0, y1, y2, y3, y4, y5, y6, y7⟩ := (hB.now hbq).c8
        go_loopw [7] (fun iv wr => iv = .int .i64 0 ∧ wr = wd) (fun _ _ => 0)
        case atStart => exact ⟨rfl, by first | rfl | trivial⟩
        case round =>
          obtain ⟨rfl, hwe⟩ := hrel
          subst hwe
          go_wp2_with fail
          go_roundw
          case rel => exact ⟨k + 1, by omega, by go_num, hbq⟩
          case measure => simp [intOf]; omega
theorem SlI.of_ownF {w : World} {B base t n : Nat} {v : Value} {zs : List Int} (h : w.ownsRow base t 1 v n (zs.map (Value.int .i64))) (hB : B ≤ base) (hf : ∀ z ∈ zs, Fit z) : SlI (Fr B w) w v zs :=
  Sl.of_own1 h (by have := own_len h; simpa using this) (fun g hg => by have := h.lt g hg; exact ⟨by omega, this.2⟩) fun i x hx => ⟨.int .i64 x, by simp [hx], rfl, hf x (List.mem_of_getElem? hx)⟩
set_option maxHeartbeats 1000000 in
theorem enabledF_any (n : Net) (v mv : Value) (m : List Int) (w : World) (h : IsNet (Lt w.heap.size) w v n) (hm : SlI (Lt w.heap.size) w mv m) :
    Calls Tryz.prog 55 #[v, mv] w (RetIF (enE n m).1 (enE n m).2 w) := by
  have h0 := h
  obtain ⟨tv, rfl, hp, hs, hkk, ht⟩ := h
  obtain ⟨A, c, rfl, h1, h2, ht⟩ := ht.open_
  go_enter Tryz.func55, Tryz.ntmps55
  go_wp2_with fail
  have hb := bone w (Obj.cells #[Value.int IntKind.i64 n.places, Value.slice A n.trans.length c, Value.int IntKind.i64 n.source, Value.int IntKind.i64 n.sink] 24)
  refine (marking_any n _ _ m _ (h0.now hb) (hm.now hb)).mono ?_
  rintro e w1 ⟨rfl, hb1⟩
  have hbw := bthen hb hb1
  have hB1 := (Blk.new w 24 #[.int .i64 n.places, .slice A n.trans.length c, .int .i64 n.source, .int .i64 n.sink]).now hb1
  obtain ⟨q0, q1, q2, q3⟩ := hB1.c4
  generalize hq : (validB n && markingB n.places m) = q
  have HQ := Lib.hid hq
  clear hq
  cases q
  · have HE : Hid (enE n m = ([], 1)) := by show enE n m = _; unfold enE; rw [HQ.out]; rfl
    go_wp2_with fail
    go_ret2
    rw [HE.out]
    exact ⟨_, rfl, Sl.none_, hbw⟩
  have HE : Hid (enE n m = (enB n m, 0)) := by show enE n m = _; unfold enE; rw [HQ.out]; rfl
  obtain ⟨HV, HM⟩ := (Bool.and_eq_true _ _).mp HQ.out
  obtain ⟨v1, v2, v3, v4⟩ := validOk HV
  obtain ⟨hml, hmw⟩ := markOk HM
  have HTO := Lib.hid v4
  have HIN : Hid (∀ t ∈ n.trans, Inside t.ins m) := fun t htt p hp => by have := places_mem (trPlaces (v4 t htt)).1 p hp; omega
  have HNN : Hid (NonNeg m) := fun z hz => (hmw z hz).1
  have HM := Lib.hid HM
  clear v4 hmw HV
  have hlt1 := hB1.lt
  go_wp2_with fail
  clear q0 q1 q2 q3
  go_loopw [6, 16] (fun ov i wr => ∃ k : Nat, k ≤ n.trans.length ∧ i = .int .i64 k ∧ wr.ownsRow (w.heap.size + 1) 3 1 ov (enTo n m k).length ((enTo n m k).map (Value.int .i64)) ∧ Below w.heap.size w wr ∧ w.heap.size < wr.heap.size) (fun _ i _ => n.trans.length - (intOf i).toNat)
  case atStart => exact ⟨0, Nat.zero_le _, rfl, World.ownsRow_nil _ _ _ _, hbw, hlt1⟩
  case round =>
    obtain ⟨k, hk, rfl, hown, hbr, hltr⟩ := hrel
    by_cases hlt : k < n.trans.length
    · obtain ⟨b, o, t, iv, ov', rfl, hD, hx, hlb, hti, hto, d0, d1, d2⟩ := (ht.now hbr).at_ hlt
      have HX := Lib.hid hx
      have hen := enTo_len n m k
      clear hx
      have hbt := bone wr (.cells #[.string t.label, iv, ov'] 112)
      obtain ⟨Ai, ci, rfl, i1, i2, hti⟩ := hti.open_
      obtain ⟨Ao, co, rfl, o1, o2, hto⟩ := hto.open_
      go_wp2_with fail
      refine (enabled_any t _ _ m _ ⟨_, _, rfl, hlb, hti.now hbt, hto.now hbt⟩ ((hm.now hbr).now hbt) (HIN.out t (List.mem_of_getElem? HX.out)) HNN.out).mono ?_
      rintro e w2 ⟨rfl, hb2⟩
      have hb3 := bthen (bthen hbr hbt) hb2
      have hown2 := own_now (own_now hown hbt) hb2
      have hlt2 : w.heap.size < w2.heap.size := Nat.lt_of_lt_of_le hltr (Nat.le_trans hbt.size hb2.size)
      generalize hq : canB t.ins m = q
      have HQ := Lib.hid hq
      clear hq hbt hb2 hown
      cases q
      · have HS := Lib.hid (enTo_no (m := m) HX.out HQ.out)
        go_wp2_with fail
        go_roundw
        case rel => exact ⟨k + 1, by omega, by go_num, by rw [HS.out]; exact hown2, hb3, hlt2⟩
        case measure => simp [intOf]; omega
      · have HS := Lib.hid (enTo_yes (m := m) HX.out HQ.out)
        go_wp2_with (at_builtin; refine wpList_push appInts rfl (.tmp 24) (.tmp 26) rfl w2 [.int .i64 (k : Int)] rfl (by simp [Value.oneCell']) _ (enTo n m k).length ((enTo n m k).map (Value.int .i64)) rfl hown2 rfl (by omega) (by omega) ?_; intro v' w' hown' hgr hat)
        have hbg : Below (w.heap.size + 1) w2 w' := below_of_grown hgr (by omega) (fun g hg => (hown2.lt g hg).1)
        go_roundw
        case rel =>
          refine ⟨k + 1, by omega, by go_num, ?_, hb3.trans (hbg.mono (by omega)), Nat.lt_of_lt_of_le hlt2 hbg.size⟩
          rw [HS.out]; simpa using hown'
        case measure => simp [intOf]; omega
    · obtain rfl : k = n.trans.length := by omega
      go_wp2_with fail
      go_ret2
      rw [HE.out]
      exact ⟨_, rfl, SlI.of_ownF hown (by omega) (enTo_fit n m _ (by omega)), hbr⟩
end Go.Proofs.YtlmenhjlgmejkaaGreatDoor
namespace Go.Proofs.YtlmenhjlgmejkaaGreatDoor
open Go.ChangeShapes Go.WideShapes Go.RowKit Go.Deep
theorem add_lit' (b o n j : Nat) : ((⟨b, o, none⟩ : Addr).add n).add j = ⟨b, o + n + j, none⟩ := by
  rw [add_add']; unfold Addr.add
  by_cases h : n + j = 0
  · have h1 : n = 0 := by omega
    have h2 : j = 0 := by omega
    subst h1 h2; rfl
  · rw [if_neg h]; simp [Nat.add_assoc]
theorem cell_spot {w : World} {a : Addr} {u : Value} (h : w.cell? a = some u) : a = ⟨a.block, a.off, none⟩ ∧ a.block < w.heap.size := by
  obtain ⟨b, o, s⟩ := a
  unfold World.cell? at h
  cases s with
  | none =>
    refine ⟨rfl, ?_⟩
    rcases Nat.lt_or_ge b w.heap.size with h' | h'
    · exact h'
    · simp [Array.getElem?_eq_none h'] at h
  | some s => split at h <;> simp at h
section
variable {H : Type} {enc : TypeId × Value → H} {P : Program} {w : World} {base : Nat} {spare : Nat → Bool} {held : Bool}
theorem Sl.of_trod {α : Type} [Inhabited α] {size : Nat} {R : ElemR α} {t e : TypeId} {fuel : Nat} {v : Value} {x : DataW H × List MemPlace} (ht : P.underlying t = some (.slice e)) (hsz : P.cellsOf e = size) (hs0 : 0 < size)
    (hR : ∀ (fuel' : Nat) (cs : List Value) (y : DataW H × List MemPlace), DataW.trod enc P w base spare held fuel' e cs = some y → ∃ z, R (Lt w.heap.size) w z cs)
    (h : DataW.trod enc P w base spare held fuel t [v] = some x) : ∃ xs, Sl size R (Lt w.heap.size) w v xs := by
  rcases open_slice ht h with ⟨hv, _⟩ | ⟨a, len, cap, m, n, D, Pl, hv, _, hl, hm, hmm, _, hi⟩
  · injection hv with hv; subst hv; exact ⟨[], Sl.none_⟩
  · injection hv with hv
    subst hv
    have hlm : len ≤ m := by rw [hmm]; split <;> omega
    have key : ∀ i, ∃ z : α, i < len → ∃ cs : List Value, cs.length = size ∧ R (Lt w.heap.size) w z cs ∧ ∀ j, j < size → w.cell? ((a.add (i * size)).add j) = cs[j]? := by
      intro i
      by_cases hlt : i < len
      · obtain ⟨cs', hc, htr⟩ := hi i (by omega)
        rw [hsz] at hc
        obtain ⟨z, hz⟩ := hR _ _ _ htr
        obtain ⟨_, hcl, hat⟩ := World.cells?_some hc
        exact ⟨z, fun _ => ⟨cs', hcl, hz, hat⟩⟩
      · exact ⟨default, fun h' => absurd h' hlt⟩
    refine ⟨(List.range len).map fun i => Classical.choose (key i), some a, cap, by simp, by simpa using hl, hm, fun i z hz => ?_⟩
    rw [List.getElem?_map] at hz
    have hlt : i < len := by
      rcases Nat.lt_or_ge i len with h' | h'
      · exact h'
      · rw [List.getElem?_eq_none (by simpa using h')] at hz; simp at hz
    rw [List.getElem?_range hlt] at hz
    injection hz with hz
    obtain ⟨cs, hcl, hr, hat⟩ := Classical.choose_spec (key i) hlt
    obtain ⟨cs0, hcl0, _, hat0⟩ := Classical.choose_spec (key 0) (by omega)
    have h00 := hat0 0 hs0
    have hc0 : cs0[0]? = some (cs0[0]'(by omega)) := List.getElem?_eq_getElem (by omega)
    rw [hc0] at h00
    have ha0 : (a.add (0 * size)).add 0 = a := by simp [Addr.add]
    rw [ha0] at h00
    obtain ⟨ha, hblk⟩ := cell_spot h00
    replace hz : Classical.choose (key i) = z := hz
    rw [hz] at hr
    refine ⟨a.block, a.off, cs, by rw [← ha], hblk, hcl, hr, fun j u hu => ?_⟩
    have hj : j < size := by
      rcases Nat.lt_or_ge j cs.length with h' | h'
      · omega
      · rw [List.getElem?_eq_none h'] at hu; cases hu
    have := hat j hj
    rw [ha, add_lit'] at this
    rw [this, hu]
theorem fit_of_wf {n : Int} (h : (Lit.int .i64 n).wf = true) : Fit n := by
  have h' : decide ((-9223372036854775808 : Int) ≤ n) = true ∧ decide (n ≤ (9223372036854775807 : Int)) = true := by
    rw [← Bool.and_eq_true]; exact h
  unfold Fit
  simpa using h'
theorem SlI.of_trod {t e : TypeId} {fuel : Nat} {v : Value} {x : DataW H × List MemPlace} (ht : P.underlying t = some (.slice e)) (he : P.underlying e = some (.int .i64)) (hc : P.cellsOf e = 1)
    (h : DataW.trod enc P w base spare held fuel t [v] = some x) : ∃ zs, SlI (Lt w.heap.size) w v zs :=
  Sl.of_trod ht hc (by omega) (fun _ cs y hy => by
    obtain ⟨k, e1, e2, e3⟩ := DataW.trod_int he hy
    exact ⟨k, e1, fit_of_wf e3⟩) h
theorem SlS.of_trod {t e : TypeId} {fuel : Nat} {v : Value} {x : DataW H × List MemPlace} (ht : P.underlying t = some (.slice e)) (he : P.underlying e = some .string) (hc : P.cellsOf e = 1)
    (h : DataW.trod enc P w base spare held fuel t [v] = some x) : ∃ zs, SlS (Lt w.heap.size) w v zs :=
  Sl.of_trod ht hc (by omega) (fun _ cs y hy => by
    obtain ⟨k, e1, e2, e3⟩ := DataW.trod_string he hy
    exact ⟨k, e1, e3⟩) h
theorem post_of_below {f : Func} {s : ChangeSpec} {apart fresh handsOn again : Bool} {W W' : World} {args : Array Value} {v : Value} {ds gs : List (DataW H)} {before pa pv : List MemPlace}
    (hW : DataW.Whole enc P f.params.toList s.vars apart W args.toList ds gs before)
    (hres : ∀ (b : Nat) (sp : Nat → Bool) (hd : Bool), DataW.TrodAll enc P W' b sp hd f.resultTypes.toList (v.resultList f.resultTypes.size) (s.fn H (ds ++ gs)).results [])
    (hargs : ∀ sp : Nat → Bool, (∀ p ∈ before, sp p.block = true) → DataW.TrodAll enc P W' 0 sp true f.params.toList args.toList (s.fn H (ds ++ gs)).args pa)
    (hvars : ∀ sp : Nat → Bool, (∀ p ∈ before, sp p.block = true) → DataW.TrodVars enc P W' sp s.vars (s.fn H (ds ++ gs)).vars pv)
    (hps : before = pa ++ pv) (hb : Below W.heap.size W W')
    (hok : ∀ (j : Nat) (t : TypeId) (r : Value), f.resultTypes[j]? = some t → (v.resultList f.resultTypes.size)[j]? = some r → Value.okWide P W' .any 0 t r) :
    s.post enc P f apart fresh handsOn again W args v W' := by
  have hlt : ∀ p ∈ before, p.block < W.heap.size := fun p hp => hW.lt p hp
  have hold : ∀ p ∈ before, (fun b => decide (b < W.heap.size)) p.block = true := fun p hp => by simpa using hlt p hp
  refine ⟨ds, gs, before, [], pa, pv, hW, hres _ _ _, hargs _ hold, hvars _ hold, World.keptBut_mono (fun p hp => ⟨hp, ?_⟩) (hb.frame (· ∈ before)), fun _ => ?_⟩
  · rw [hps, List.mem_append] at hp
    exact Or.inr hp
  · obtain ⟨_, _, _, _, _, hz, hn⟩ := hW
    refine ⟨hok, _, _, ([] ++ pa) ++ pv, ⟨[] ++ pa, pv, trodAll_append (hargs _ (fun _ _ => rfl)) (hres _ _ _), hvars _ (fun _ _ => rfl), rfl, ?_, ?_⟩, ?_⟩
    · intro b off hp
      have hin : MemPlace.cell b off ∈ before := by rw [hps]; simpa using hp
      rw [hb.frozen (hlt _ hin)]
      exact hz b off hin
    · intro ha
      have := hn ha
      rw [hps] at this
      simpa using this
    · intro p hp _
      rw [hps]
      simpa using hp
end
theorem cellsInt : Tryz.prog.cellsOf 3 = 1 := by kernel_rfl
theorem cellsStr : Tryz.prog.cellsOf 9 = 1 := by kernel_rfl
theorem cellsTrans : Tryz.prog.cellsOf 112 = 3 := by kernel_rfl
theorem cellsInts : Tryz.prog.cellsOf 31 = 1 := by kernel_rfl
theorem cellsNet : Tryz.prog.cellsOf 24 = 4 := by kernel_rfl
instance : Inhabited Tr := ⟨⟨ByteArray.empty, [], []⟩⟩
section
variable {H : Type} {enc : TypeId × Value → H} {w : World} {base : Nat} {spare : Nat → Bool} {held : Bool}
theorem ints_of {fuel : Nat} {v : Value} {x : DataW H × List MemPlace} (h : DataW.trod enc Tryz.prog w base spare held fuel 31 [v] = some x) : ∃ zs, SlI (Lt w.heap.size) w v zs :=
  SlI.of_trod Tryz.underlying31 Tryz.underlying3 cellsInt h
set_option maxRecDepth 100000 in
theorem tr_of (fuel : Nat) (cs : List Value) (y : DataW H × List MemPlace) (h : DataW.trod enc Tryz.prog w base spare held fuel 112 cs = some y) : ∃ t, RTr (Lt w.heap.size) w t cs := by
  obtain ⟨y0, y1, y2, n, _, hl, h0, h1, h2⟩ := trod_struct3 Tryz.underlying112 h
  rw [cellsTrans] at hl
  match cs, hl with
  | [c0, c1, c2], _ =>
    simp only [cellsStr, cellsInts, List.drop_zero, List.take_succ_cons, List.take_zero, List.drop_succ_cons] at h0 h1 h2
    obtain ⟨s, e0, _, hs⟩ := DataW.trod_string Tryz.underlying9 h0
    injection e0 with e0
    subst e0
    obtain ⟨is, hi⟩ := ints_of h1
    obtain ⟨os, ho⟩ := ints_of h2
    exact ⟨⟨s, is, os⟩, c1, c2, rfl, hs, hi, ho⟩
set_option maxRecDepth 100000 in
theorem net_of {r : Go.Reach} {b0 : Nat} {v : Value} {d : DataW H} {p : List MemPlace} (hv : Value.okWide Tryz.prog w r b0 24 v) (h : DataW.Trod enc Tryz.prog w base spare held 24 v d p) : ∃ n, IsNet (Lt w.heap.size) w v n := by
  obtain ⟨v0, v1, v2, v3, y0, y1, y2, y3, n, rfl, _, _, h0, h1, h2, h3⟩ := Go.Joins.open_agg4 Tryz.underlying24 (by kernel_rfl) cellsNet hv h
  obtain ⟨a, e0, _, w0⟩ := DataW.trod_int Tryz.underlying3 h0
  obtain ⟨ts, ht⟩ := Sl.of_trod (R := RTr) (size := 3) Tryz.underlying22 cellsTrans (by omega) tr_of h1
  obtain ⟨b, e2, _, w2⟩ := DataW.trod_int Tryz.underlying3 h2
  obtain ⟨c, e3, _, w3⟩ := DataW.trod_int Tryz.underlying3 h3
  injection e0 with e0
  injection e2 with e2
  injection e3 with e3
  subst e0 e2 e3
  exact ⟨⟨a, ts, b, c⟩, v1, rfl, fit_of_wf w0, fit_of_wf w2, fit_of_wf w3, ht⟩
set_option maxRecDepth 100000 in
theorem slice_of {r : Go.Reach} {b0 : Nat} {v : Value} {d : DataW H} {p : List MemPlace} {t e : TypeId} (hs : Tryz.prog.underlying t = some (.slice e)) (hv : Value.okWide Tryz.prog w r b0 t v) (h : DataW.Trod enc Tryz.prog w base spare held t v d p) : ∃ fuel x, DataW.trod enc Tryz.prog w base spare held fuel t [v] = some x := by
  obtain ⟨a, len, cap, rfl⟩ := okWide_slice hs hv
  obtain ⟨fuel, hf⟩ := h
  exact ⟨fuel, (d, p), hf⟩
end
instance : Inhabited Val := ⟨noV⟩
instance : Inhabited Var := ⟨⟨emptyS, 0, 0, 0, []⟩⟩
instance : Inhabited Ex := ⟨.mk 0 noV emptyS []⟩
instance : Inhabited Wr := ⟨⟨0, default⟩⟩
section
variable {H : Type} {enc : TypeId × Value → H} {w : World} {base : Nat} {spare : Nat → Bool} {held : Bool}
end
end Go.Proofs.YtlmenhjlgmejkaaGreatDoor
