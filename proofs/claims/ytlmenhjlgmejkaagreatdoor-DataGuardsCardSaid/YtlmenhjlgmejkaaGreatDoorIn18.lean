/- Texts of this seat, merged. -/
import Derived.StillTailTactics
import Derived.Deep.Light
import Derived.Lib.Slices
import Derived.Deep.QuietTactic
import Derived.BigQuiet
import Derived.Test.YtlmenhjlgmejkaaGreatDoorProg
import Derived.Outline
import Derived.WalkKit
import Derived.WalkSpells
import Derived.WalkLawsBesides
import Derived.Lib.Hide
import Derived.Deep.Draws
import Derived.Deep.OwnRows
import Derived.Shelf.Abstract
import Derived.Shelf.Strings.Builder1
import Derived.Shelf.Small.Bits
import Derived.Shelf.Small.Wraps
import Derived.Shelf.Strings.BuilderF
import Derived.Shelf.Strings.BuilderK
import Derived.Shelf.Strconv.Itoa0
import Derived.Shelf.Strconv.Itoa1
import Derived.Shelf.LaysM
import Derived.Shelf.Strconv.Itoa2
import Derived.Shelf.Strconv.Itoa3
import Derived.Shelf.Sort.Plain
import Derived.Shelf.Strings.BuilderCap
import Derived.Shelf.Slices.Turned
import Derived.Shelf.Slices.Reverse
import Derived.Shelf.Slices.Equal
import Derived.Ground.Names2Prog
import Derived.Shelf.Slices.Clone
import Derived.Shelf.Slices.CompactS
import Derived.Shelf.Slices.Cells
import Derived.Shelf.Slices.In.SortNone
import Derived.Shelf.Slices.Empties2
import Derived.Maps.AppendAt
import Derived.Deep.AppendLies
import Derived.RegionTactic
import Derived.OwnWalk
import Derived.Lib.ItoaNum
import Derived.Lib.ItoaMem
import Derived.Lib.AtoiTie
import Derived.Test.YtlmenhjlgmejkaaGreatDoorIn01
import Derived.Test.YtlmenhjlgmejkaaGreatDoorIn02
import Derived.Test.YtlmenhjlgmejkaaGreatDoorIn03
import Derived.Test.YtlmenhjlgmejkaaGreatDoorIn04
import Derived.Test.YtlmenhjlgmejkaaGreatDoorIn05
import Derived.Test.YtlmenhjlgmejkaaGreatDoorIn06
import Derived.Test.YtlmenhjlgmejkaaGreatDoorIn07
import Derived.Test.YtlmenhjlgmejkaaGreatDoorIn08
import Derived.Test.YtlmenhjlgmejkaaGreatDoorIn09
import Derived.Test.YtlmenhjlgmejkaaGreatDoorIn10
import Derived.Test.YtlmenhjlgmejkaaGreatDoorIn11
import Derived.Test.YtlmenhjlgmejkaaGreatDoorIn12
import Derived.Test.YtlmenhjlgmejkaaGreatDoorIn13
import Derived.Test.YtlmenhjlgmejkaaGreatDoorIn14
import Derived.Test.YtlmenhjlgmejkaaGreatDoorIn15
import Derived.Test.YtlmenhjlgmejkaaGreatDoorIn16
import Derived.Test.YtlmenhjlgmejkaaGreatDoorIn17
set_option linter.unusedSimpArgs false
set_option linter.unusedVariables false
namespace Go.Proofs.YtlmenhjlgmejkaaGreatDoor
open Go.RowKit
def canAt (n : Net) (m : List Int) (i : Nat) : Bool := match n.trans[i]? with | some t => canB t.ins m | none => false
def enTo (n : Net) (m : List Int) (k : Nat) : List Int := ((List.range k).filter (canAt n m)).map fun (i : Nat) => (i : Int)
def enB (n : Net) (m : List Int) : List Int := enTo n m n.trans.length
def enE (n : Net) (m : List Int) : List Int × Int := if (validB n && markingB n.places m) = false then ([], 1) else (enB n m, 0)
theorem enTo_yes {n : Net} {m : List Int} {k : Nat} {t : Tr} (ht : n.trans[k]? = some t) (h : canB t.ins m = true) : enTo n m (k + 1) = enTo n m k ++ [(k : Int)] := by
  unfold enTo
  rw [List.range_succ, List.filter_append, List.map_append]
  have : canAt n m k = true := by unfold canAt; rw [ht]; exact h
  simp [this]
theorem enTo_no {n : Net} {m : List Int} {k : Nat} {t : Tr} (ht : n.trans[k]? = some t) (h : canB t.ins m = false) : enTo n m (k + 1) = enTo n m k := by
  unfold enTo
  rw [List.range_succ, List.filter_append, List.map_append]
  have : canAt n m k = false := by unfold canAt; rw [ht]; exact h
  simp [this]
theorem enTo_len (n : Net) (m : List Int) (k : Nat) : (enTo n m k).length ≤ k := by
  unfold enTo
  rw [List.length_map]
  exact Nat.le_trans (List.length_filter_le _ _) (by simp)
theorem enTo_fit (n : Net) (m : List Int) (k : Nat) (hk : k ≤ 100) : ∀ z ∈ enTo n m k, Fit z := by
  intro z hz
  unfold enTo at hz
  obtain ⟨i, hi, rfl⟩ := List.mem_map.1 hz
  have := List.mem_range.1 (List.mem_filter.1 hi).1
  unfold Fit; omega
set_option maxHeartbeats 1000000 in
theorem enabledX_any (n : Net) (v mv : Value) (m : List Int) (w : World) (h : IsNet (Lt w.heap.size) w v n) (hm : SlI (Lt w.heap.size) w mv m) :
    Calls Tryz.prog 55 #[v, mv] w (RetIE (enE n m).1 (enE n m).2 w) := by
  have h0 := h
  obtain ⟨tv, rfl, hp, hs, hkk, ht⟩ := h
  obtain ⟨A, c, rfl, h1, h2, ht⟩ := ht.open_
  go_enter Tryz.func55, Tryz.ntmps55
  go_wp2_with fail
  have hb := bone w (Obj.cells #[Value.int IntKind.i64 n.places, Value.slice A n.trans.length c, Value.int IntKind.i64 n.source, Value.int IntKind.i64 n.sink] 24)
  refine (marking_any n _ _ m _ (h0.now hb) (hm.now hb)).mono ?_
  rintro e w1 ⟨rfl, hb1⟩
  have hbw := bthen hb hb1
  have hB1 := (Blk.new w 24 #[.int .i64 n.places, .slice A n.trans.length c, .int .i64 n.source, .int .i64 n.sink]).now hb1
  obtain ⟨q0, q1, q2, q3⟩ := hB1.c4
  generalize hq : (validB n && markingB n.places m) = q
  have HQ := Lib.hid hq
  clear hq
  cases q
  · have HE : Hid (enE n m = ([], 1)) := by show enE n m = _; unfold enE; rw [HQ.out]; rfl
    go_wp2_with fail
    go_ret2
    rw [HE.out]
    exact ⟨_, rfl, Sl.none_, hbw⟩
  have HE : Hid (enE n m = (enB n m, 0)) := by show enE n m = _; unfold enE; rw [HQ.out]; rfl
  obtain ⟨HV, HM⟩ := (Bool.and_eq_true _ _).mp HQ.out
  obtain ⟨v1, v2, v3, v4⟩ := validOk HV
  obtain ⟨hml, hmw⟩ := markOk HM
  have HTO := Lib.hid v4
  have HIN : Hid (∀ t ∈ n.trans, Inside t.ins m) := fun t htt p hp => by have := places_mem (trPlaces (v4 t htt)).1 p hp; omega
  have HNN : Hid (NonNeg m) := fun z hz => (hmw z hz).1
  have HM := Lib.hid HM
  clear v4 hmw HV
  have hlt1 := hB1.lt
  go_wp2_with fail
  clear q0 q1 q2 q3
  go_loopw [6, 16] (fun ov i wr => ∃ k : Nat, k ≤ n.trans.length ∧ i = .int .i64 k ∧ wr.ownsRow (w.heap.size + 1) 3 1 ov (enTo n m k).length ((enTo n m k).map (Value.int .i64)) ∧ Below w.heap.size w wr ∧ w.heap.size < wr.heap.size) (fun _ i _ => n.trans.length - (intOf i).toNat)
  case atStart => exact ⟨0, Nat.zero_le _, rfl, World.ownsRow_nil _ _ _ _, hbw, hlt1⟩
  case round =>
    obtain ⟨k, hk, rfl, hown, hbr, hltr⟩ := hrel
    by_cases hlt : k < n.trans.length
    · obtain ⟨b, o, t, iv, ov', rfl, hD, hx, hlb, hti, hto, d0, d1, d2⟩ := (ht.now hbr).at_ hlt
      have HX := Lib.hid hx
      have hen := enTo_len n m k
      clear hx
      have hbt := bone wr (.cells #[.string t.label, iv, ov'] 112)
      obtain ⟨Ai, ci, rfl, i1, i2, hti⟩ := hti.open_
      obtain ⟨Ao, co, rfl, o1, o2, hto⟩ := hto.open_
      go_wp2_with fail
      refine (enabled_any t _ _ m _ ⟨_, _, rfl, hlb, hti.now hbt, hto.now hbt⟩ ((hm.now hbr).now hbt) (HIN.out t (List.mem_of_getElem? HX.out)) HNN.out).mono ?_
      rintro e w2 ⟨rfl, hb2⟩
      have hb3 := bthen (bthen hbr hbt) hb2
      have hown2 := own_now (own_now hown hbt) hb2
      have hlt2 : w.heap.size < w2.heap.size := Nat.lt_of_lt_of_le hltr (Nat.le_trans hbt.size hb2.size)
      generalize hq : canB t.ins m = q
      have HQ := Lib.hid hq
      clear hq hbt hb2 hown
      cases q
      · have HS := Lib.hid (enTo_no (m := m) HX.out HQ.out)
        go_wp2_with fail
        go_roundw
        case rel => exact ⟨k + 1, by omega, by go_num, by rw [HS.out]; exact hown2, hb3, hlt2⟩
        case measure => simp [intOf]; omega
      · have HS := Lib.hid (enTo_yes (m := m) HX.out HQ.out)
        go_wp2_with (at_builtin; refine wpList_push appInts rfl (.tmp 24) (.tmp 26) rfl w2 [.int .i64 (k : Int)] rfl (by simp [Value.oneCell']) _ (enTo n m k).length ((enTo n m k).map (Value.int .i64)) rfl hown2 rfl (by omega) (by omega) ?_; intro v' w' hown' hgr hat)
        have hbg : Below (w.heap.size + 1) w2 w' := below_of_grown hgr (by omega) (fun g hg => (hown2.lt g hg).1)
        go_roundw
        case rel =>
          refine ⟨k + 1, by omega, by go_num, ?_, hb3.trans (hbg.mono (by omega)), Nat.lt_of_lt_of_le hlt2 hbg.size⟩
          rw [HS.out]; simpa using hown'
        case measure => simp [intOf]; omega
    · obtain rfl : k = n.trans.length := by omega
      go_wp2_with fail
      go_ret2
      rw [HE.out]
      exact ⟨_, rfl, SlI.of_own hown (enTo_fit n m _ (by omega)), hbr⟩
end Go.Proofs.YtlmenhjlgmejkaaGreatDoor

namespace Go.Proofs.YtlmenhjlgmejkaaGreatDoor
open Go.RowKit
theorem enE_code (n : Net) (m : List Int) : (enE n m).2 = if validB n && markingB n.places m then 0 else 1 := by
  unfold enE
  cases validB n && markingB n.places m <;> rfl
theorem IsSt.open_ {D : Nat → Prop} {w : World} {u : Value} {s : St} (h : IsSt D w u s) : ∃ Am cm Av cv, u = .agg #[.slice Am s.marks.length cm, .slice Av s.vals.length cv] ∧ SlI D w (.slice Am s.marks.length cm) s.marks ∧ SlV D w (.slice Av s.vals.length cv) s.vals ∧
    (s.marks.length ≤ cm ∧ cm ≤ 9223372036854775807) ∧ s.vals.length ≤ cv ∧ cv ≤ 9223372036854775807 := by
  obtain ⟨mv, vv, rfl, h1, h2⟩ := h
  obtain ⟨Am, cm, rfl, t1, t2, h1⟩ := Sl.open_ h1
  obtain ⟨Av, cv, rfl, t3, t4, h2⟩ := Sl.open_ h2
  exact ⟨Am, cm, Av, cv, rfl, h1, h2, ⟨t1, t2⟩, t3, t4⟩
set_option maxHeartbeats 4000000 in
set_option maxRecDepth 100000 in
theorem dstate_any (n : Nat) (d : DNet) (s : St) (u us : Value) (w : World) (h : IsDn n (Lt w.heap.size) w u d) (hs : IsSt (Lt w.heap.size) w us s) (hl : d.vars.length ≤ 1000000) :
    Calls Tryz.prog 87 #[u, us] w fun e w' => e = .returned (.bool (stateB d s)) ∧ Below w.heap.size w w' := by
  obtain ⟨At, ct, Ax, cx, iv, Ag, cg, Aw, cw, rfl, h1, h2, h3, h4, h5, ⟨t1, t2⟩, ⟨x1, x2⟩, ⟨g1, g2⟩, v1, v2⟩ := h.open_
  obtain ⟨Am, cm, Av, cv, rfl, s1, s2, ⟨t3, t4⟩, t5, t6⟩ := hs.open_
  clear h hs h3 h4 h5
  have hb0 := bone w (.cells #[.int .i64 d.net.places, .slice At d.net.trans.length ct, .int .i64 d.net.source, .int .i64 d.net.sink, .slice Ax d.vars.length cx, iv, .slice Ag d.guards.length cg, .slice Aw d.writes.length cw] 30)
  have hb := bbox hb0 (.cells #[.slice Am s.marks.length cm, .slice Av s.vals.length cv] 33)
  have hB := (Blk.new w 30 #[.int .i64 d.net.places, .slice At d.net.trans.length ct, .int .i64 d.net.source, .int .i64 d.net.sink, .slice Ax d.vars.length cx, iv, .slice Ag d.guards.length cg, .slice Aw d.writes.length cw]).alloc (.cells #[.slice Am s.marks.length cm, .slice Av s.vals.length cv] 33)
  have hC := Blk.new_at (t := 33) (cs := #[.slice Am s.marks.length cm, .slice Av s.vals.length cv]) (w := w.alloc (.cells #[.int .i64 d.net.places, .slice At d.net.trans.length ct, .int .i64 d.net.source, .int .i64 d.net.sink, .slice Ax d.vars.length cx, iv, .slice Ag d.guards.length cg, .slice Aw d.writes.length cw] 30)) (s := w.heap.size + 1) (by simp)
  have hn1 := h1.now hb
  have hx1 := h2.now hb
  have hm1 := s1.now hb
  have hv1 := s2.now hb
  clear h1 h2 s1 s2 hb0
  have HD : Hid (stateB d s = (validB d.net && markingB d.net.places s.marks && asgB d.vars s.vals)) := rfl
  have HE := Lib.hid (enE_code d.net s.marks)
  go_enter Tryz.func87, Tryz.ntmps87
  go_upto_region 1 with fail
  generalize hw1e : (w.alloc (.cells #[.int .i64 d.net.places, .slice At d.net.trans.length ct, .int .i64 d.net.source, .int .i64 d.net.sink, .slice Ax d.vars.length cx, iv, .slice Ag d.guards.length cg, .slice Aw d.writes.length cw] 30)).alloc (.cells #[.slice Am s.marks.length cm, .slice Av s.vals.length cv] 33) = w1 at *
  clear hw1e
  obtain ⟨q0, q1, q2, q3, q4, q5, q6, q7⟩ := hB.c8
  obtain ⟨y0, y1⟩ := hC.c2
  go_wp2_with fail
  refine (enabledX_any d.net _ _ s.marks _ hn1 hm1).mono ?_
  rintro e w2 ⟨rv, rfl, _, hb2⟩
  have hbw2 := bthen hb hb2
  have hB2 := hB.now hb2
  have hC2 := hC.now hb2
  have hx2 := hx1.now hb2
  have hv2 := hv1.now hb2
  clear q0 q1 q2 q3 q4 q5 q6 q7 y0 y1 hB hC hn1 hx1 hm1 hv1 hb2
  obtain ⟨q0, q1, q2, q3, q4, q5, q6, q7⟩ := hB2.c8
  obtain ⟨y0, y1⟩ := hC2.c2
  generalize hq : (validB d.net && markingB d.net.places s.marks) = q at *
  clear hq
  generalize enE d.net s.marks = z at *
  obtain ⟨z1, z2⟩ := z
  dsimp only at *
  cases q
  · obtain rfl : z2 = 1 := HE.out
    have HR : Hid (stateB d s = false) := by show _ = _; rw [HD.out]; rfl
    go_wp2_with fail
    go_ret
    exact ⟨ret_bool HR.out.symm, hbw2⟩
  · obtain rfl : z2 = 0 := HE.out
    have HR : Hid (stateB d s = asgB d.vars s.vals) := by show _ = _; rw [HD.out]; rfl
    go_wp2_with fail
    refine (dassigned_any d.vars s.vals _ _ _ hx2 hv2 hl).mono ?_
    rintro e w3 ⟨rfl, hb3⟩
    go_wp2_with fail
    go_ret
    exact ⟨ret_bool HR.out.symm, bthen hbw2 hb3⟩
set_option maxHeartbeats 4000000 in
set_option maxRecDepth 100000 in
theorem dvstate_any (n : Nat) (d : DNet) (s : St) (u us : Value) (w : World) (h : IsDn n (Lt w.heap.size) w u d) (hs : IsSt (Lt w.heap.size) w us s) (hl : d.vars.length ≤ 1000000) :
    Calls Tryz.prog 41 #[u, us] w fun e w' => e = .returned (.bool (vstateB d s)) ∧ Below w.heap.size w w' := by
  have h0 := h
  have hs0 := hs
  obtain ⟨At, ct, Ax, cx, iv, Ag, cg, Aw, cw, rfl, _, _, _, _, _, ⟨t1, t2⟩, ⟨x1, x2⟩, ⟨g1, g2⟩, v1, v2⟩ := h.open_
  obtain ⟨Am, cm, Av, cv, rfl, _, _, ⟨t3, t4⟩, t5, t6⟩ := hs.open_
  clear h hs
  have hb0 := bone w (.cells #[.int .i64 d.net.places, .slice At d.net.trans.length ct, .int .i64 d.net.source, .int .i64 d.net.sink, .slice Ax d.vars.length cx, iv, .slice Ag d.guards.length cg, .slice Aw d.writes.length cw] 30)
  have hb := bbox hb0 (.cells #[.slice Am s.marks.length cm, .slice Av s.vals.length cv] 33)
  have hB := (Blk.new w 30 #[.int .i64 d.net.places, .slice At d.net.trans.length ct, .int .i64 d.net.source, .int .i64 d.net.sink, .slice Ax d.vars.length cx, iv, .slice Ag d.guards.length cg, .slice Aw d.writes.length cw]).alloc (.cells #[.slice Am s.marks.length cm, .slice Av s.vals.length cv] 33)
  have hC := Blk.new_at (t := 33) (cs := #[.slice Am s.marks.length cm, .slice Av s.vals.length cv]) (w := w.alloc (.cells #[.int .i64 d.net.places, .slice At d.net.trans.length ct, .int .i64 d.net.source, .int .i64 d.net.sink, .slice Ax d.vars.length cx, iv, .slice Ag d.guards.length cg, .slice Aw d.writes.length cw] 30)) (s := w.heap.size + 1) (by simp)
  have hn1 := h0.now hb
  have hs1 := hs0.now hb
  clear h0 hs0 hb0
  have HD : Hid (vstateB d s = (dvalidB d && stateB d s)) := rfl
  go_enter Tryz.func41, Tryz.ntmps41
  go_upto_region 1 with fail
  generalize hw1e : (w.alloc (.cells #[.int .i64 d.net.places, .slice At d.net.trans.length ct, .int .i64 d.net.source, .int .i64 d.net.sink, .slice Ax d.vars.length cx, iv, .slice Ag d.guards.length cg, .slice Aw d.writes.length cw] 30)).alloc (.cells #[.slice Am s.marks.length cm, .slice Av s.vals.length cv] 33) = w1 at *
  clear hw1e
  obtain ⟨q0, q1, q2, q3, q4, q5, q6, q7⟩ := hB.c8
  obtain ⟨y0, y1⟩ := hC.c2
  go_wp2_with fail
  refine (dvalid_any n d _ _ hn1 hl).mono ?_
  rintro e w2 ⟨rfl, hb2⟩
  have hbw2 := bthen hb hb2
  have hB2 := hB.now hb2
  have hC2 := hC.now hb2
  have hn2 := hn1.now hb2
  have hs2 := hs1.now hb2
  clear q0 q1 q2 q3 q4 q5 q6 q7 y0 y1 hB hC hn1 hs1 hb2
  obtain ⟨q0, q1, q2, q3, q4, q5, q6, q7⟩ := hB2.c8
  obtain ⟨y0, y1⟩ := hC2.c2
  generalize dvalidB d = q at *
  cases q
  · have HR : Hid (vstateB d s = false) := HD.out
    go_wp2_with fail
    go_ret
    exact ⟨ret_bool HR.out.symm, hbw2⟩
  · have HR : Hid (vstateB d s = stateB d s) := HD.out
    go_wp2_with fail
    refine (dstate_any n d s _ _ _ hn2 hs2 hl).mono ?_
    rintro e w3 ⟨rfl, hb3⟩
    go_wp2_with fail
    go_ret
    exact ⟨ret_bool HR.out.symm, bthen hbw2 hb3⟩
theorem Blk.set2 {w : World} {g : Nat} {t : TypeId} {a b : Value} (h : Blk w g t #[a, b]) (x y : Value) :
    Blk ((w.setCell ⟨g, 0, none⟩ x).setCell ⟨g, 1, none⟩ y) g t #[x, y] := by
  have := (h.set_ 0 x).set_ 1 y
  exact this
theorem bset2 {w w1 : World} {g : Nat} (h : Below w.heap.size w w1) (hg : w.heap.size ≤ g) (x y : Value) :
    Below w.heap.size w ((w1.setCell ⟨g, 0, none⟩ x).setCell ⟨g, 1, none⟩ y) :=
  (h.setCell (p := ⟨g, 0, none⟩) hg x).setCell (p := ⟨g, 1, none⟩) hg y
def RetSt (s : St) (c : Int) (w : World) (e : Ending) (w' : World) : Prop := ∃ u, e = .returned (.tuple #[u, .int .i64 c]) ∧ IsSt (Lt w'.heap.size) w' u s ∧ Below w.heap.size w w'
def dinitE (d : DNet) : St × Int := if dvalidB d then (⟨oneB d.net d.net.source, d.init⟩, 0) else (noSt, 1)
theorem noSt_is (D : Nat → Prop) (w : World) : IsSt D w (.agg #[.slice none 0 0, .slice none 0 0]) noSt := ⟨_, _, rfl, Sl.none_, Sl.none_⟩
theorem dvalid_parts {d : DNet} (h : dvalidB d = true) : validB d.net = true ∧ asgB d.vars d.init = true ∧ d.guards.length = d.net.trans.length ∧ d.writes.length = d.net.trans.length ∧ (d.guards.all fun x => typedB d.vars x 1) = true ∧ d.writes.all (wrsB d.vars (-1)) = true := by
  unfold dvalidB at h
  simp only [Bool.and_eq_true, decide_eq_true_eq] at h
  obtain ⟨⟨⟨⟨⟨a, b⟩, c⟩, e⟩, f⟩, g⟩ := h
  exact ⟨a, b, c, e, f, g⟩
end Go.Proofs.YtlmenhjlgmejkaaGreatDoor

namespace Go.Proofs.YtlmenhjlgmejkaaGreatDoor
open Go.RowKit
theorem asg_len {vs : List Var} {vals : List Val} (h : asgB vs vals = true) : vals.length = vs.length := by
  unfold asgB inAllE at h
  by_cases ho : okB vs vals = true
  · rw [if_pos ho] at h
    by_cases hl : vals.length = vs.length
    · exact hl
    · rw [assigned_len hl] at h; simp at h
  · rw [if_neg ho] at h; simp at h
theorem Sl.past {α : Type} {size : Nat} {R : ElemR α} {D : Nat → Prop} {w : World} {v : Value} {xs : List α} {g : Nat} {t : TypeId} {a b : Option Addr} {i j k l : Nat}
    (hR : ∀ D D' w x cs, R D w x cs → R D' w x cs) (hI : ∀ D w x cs, R D w x cs → ∃ z, cs[0]? = some (.int .i64 z)) (h : Sl size R D w v xs) (hg : Blk w g t #[.slice a i j, .slice b k l]) : Sl size R (fun b => D b ∧ b ≠ g) w v xs := by
  obtain ⟨A, c, hv, h1, h2, h3⟩ := h
  refine ⟨A, c, hv, h1, h2, fun q x hx => ?_⟩
  obtain ⟨b, o, cs, hA, hD, hl, hr, hc⟩ := h3 q x hx
  refine ⟨b, o, cs, hA, ⟨hD, ?_⟩, hl, hR _ _ _ _ _ hr, hc⟩
  rintro rfl
  obtain ⟨z, hz⟩ := hI _ _ _ _ hr
  have h0 := hc 0 _ hz
  rw [hg.cell] at h0
  generalize o + q * size + 0 = m at h0
  match m, h0 with
  | 0, h0 => simp at h0
  | 1, h0 => simp at h0
  | m + 2, h0 => simp at h0
theorem same_set2 {w : World} {D : Nat → Prop} {g : Nat} (x y : Value) : Same (fun b => D b ∧ b ≠ g) w ((w.setCell ⟨g, 0, none⟩ x).setCell ⟨g, 1, none⟩ y) := fun b hb =>
  (Below.heap_setCell (w.setCell ⟨g, 0, none⟩ x) ⟨g, 1, none⟩ y b hb.2).trans (Below.heap_setCell w ⟨g, 0, none⟩ x b hb.2)
theorem lt_set2 {w : World} {g : Nat} (x y : Value) (b : Nat) (h : Lt w.heap.size b ∧ b ≠ g) : Lt ((w.setCell ⟨g, 0, none⟩ x).setCell ⟨g, 1, none⟩ y).heap.size b := by
  have e := same_set2 (w := w) (D := Lt w.heap.size) (g := g) x y b h
  have h1 : b < w.heap.size := h.1
  rw [Array.getElem?_eq_getElem h1] at e
  show b < _
  rcases Nat.lt_or_ge b ((w.setCell ⟨g, 0, none⟩ x).setCell ⟨g, 1, none⟩ y).heap.size with h2 | h2
  · exact h2
  · rw [Array.getElem?_eq_none h2] at e; cases e
theorem SlI.set2 {w : World} {g : Nat} {t : TypeId} {v : Value} {xs : List Int} {a b : Option Addr} {i j k l : Nat} (h : SlI (Lt w.heap.size) w v xs) (hg : Blk w g t #[.slice a i j, .slice b k l]) (x y : Value) :
    SlI (Lt ((w.setCell ⟨g, 0, none⟩ x).setCell ⟨g, 1, none⟩ y).heap.size) ((w.setCell ⟨g, 0, none⟩ x).setCell ⟨g, 1, none⟩ y) v xs :=
  Sl.keep (Sl.past (fun _ _ _ _ _ h => h) (fun _ _ z cs h => ⟨z, by rw [h.1]; rfl⟩) h hg) RInt.kept (lt_set2 x y) (same_set2 x y)
theorem SlV.set2 {w : World} {g : Nat} {t : TypeId} {v : Value} {xs : List Val} {a b : Option Addr} {i j k l : Nat} (h : SlV (Lt w.heap.size) w v xs) (hg : Blk w g t #[.slice a i j, .slice b k l]) (x y : Value) :
    SlV (Lt ((w.setCell ⟨g, 0, none⟩ x).setCell ⟨g, 1, none⟩ y).heap.size) ((w.setCell ⟨g, 0, none⟩ x).setCell ⟨g, 1, none⟩ y) v xs :=
  Sl.keep (Sl.past (fun _ _ _ _ _ h => h) (fun _ _ z cs h => ⟨z.kind, by rw [h.1]; rfl⟩) h hg) RVal.kept (lt_set2 x y) (same_set2 x y)
set_option maxHeartbeats 4000000 in
set_option maxRecDepth 100000 in
theorem dinit_any (n : Nat) (d : DNet) (u : Value) (w : World) (h : IsDn n (Lt w.heap.size) w u d) (hl : d.vars.length ≤ 1000000) :
    Calls Tryz.prog 22 #[u] w (RetSt (dinitE d).1 (dinitE d).2 w) := by
  have h0 := h
  obtain ⟨At, ct, Ax, cx, iv, Ag, cg, Aw, cw, rfl, h1, _, h3, _, _, ⟨t1, t2⟩, ⟨x1, x2⟩, ⟨g1, g2⟩, v1, v2⟩ := h.open_
  clear h
  have hb0 := bone w (.cells #[.int .i64 d.net.places, .slice At d.net.trans.length ct, .int .i64 d.net.source, .int .i64 d.net.sink, .slice Ax d.vars.length cx, iv, .slice Ag d.guards.length cg, .slice Aw d.writes.length cw] 30)
  have hb := bbox hb0 (.cells #[.slice none 0 0, .slice none 0 0] 33)
  have hB := (Blk.new w 30 #[.int .i64 d.net.places, .slice At d.net.trans.length ct, .int .i64 d.net.source, .int .i64 d.net.sink, .slice Ax d.vars.length cx, iv, .slice Ag d.guards.length cg, .slice Aw d.writes.length cw]).alloc (.cells #[.slice none 0 0, .slice none 0 0] 33)
  have hC := Blk.new_at (t := 33) (cs := #[.slice none 0 0, .slice none 0 0]) (w := w.alloc (.cells #[.int .i64 d.net.places, .slice At d.net.trans.length ct, .int .i64 d.net.source, .int .i64 d.net.sink, .slice Ax d.vars.length cx, iv, .slice Ag d.guards.length cg, .slice Aw d.writes.length cw] 30)) (s := w.heap.size + 1) (by simp)
  have hd1 := h0.now hb
  have hn1 := h1.now hb
  have hi1 := h3.now hb
  clear h0 h1 h3 hb0
  have HD : Hid (dinitE d = if dvalidB d then (⟨oneB d.net d.net.source, d.init⟩, 0) else (noSt, 1)) := rfl
  go_enter Tryz.func22, Tryz.ntmps22
  go_upto_region 1 with fail
  generalize hw1e : (w.alloc (.cells #[.int .i64 d.net.places, .slice At d.net.trans.length ct, .int .i64 d.net.source, .int .i64 d.net.sink, .slice Ax d.vars.length cx, iv, .slice Ag d.guards.length cg, .slice Aw d.writes.length cw] 30)).alloc (.cells #[.slice none 0 0, .slice none 0 0] 33) = w1 at *
  clear hw1e
  obtain ⟨q0, q1, q2, q3, q4, q5, q6, q7⟩ := hB.c8
  obtain ⟨y0, y1⟩ := hC.c2
  go_wp2_with fail
  refine (dvalid_any n d _ _ hd1 hl).mono ?_
  rintro e w2 ⟨rfl, hb2⟩
  have hbw2 := bthen hb hb2
  have hB2 := hB.now hb2
  have hC2 := hC.now hb2
  have hn2 := hn1.now hb2
  have hi2 := hi1.now hb2
  clear q0 q1 q2 q3 q4 q5 q6 q7 y0 y1 hB hC hn1 hi1 hd1 hb2
  obtain ⟨q0, q1, q2, q3, q4, q5, q6, q7⟩ := hB2.c8
  obtain ⟨y0, y1⟩ := hC2.c2
  cases hq : dvalidB d
  · have HR : Hid (dinitE d = (noSt, 1)) := by show _ = _; rw [HD.out, hq]; rfl
    clear hq
    have z0 := hC2.frozen 0
    have z1 := hC2.frozen 1
    go_wp2_with fail
    obtain ⟨t0, t1⟩ := (hC2.set2 (.slice none 0 0) (.slice none 0 0)).c2
    refine bodyPost_ret (v := .tuple #[.agg #[.slice none 0 0, .slice none 0 0], .int .i64 1]) (by simp [results, Tryz.results22, go_sem, t0, t1]) rfl ?_
    rw [HR.out]
    exact ⟨_, rfl, noSt_is _ _, bset2 hbw2 (by omega) _ _⟩
  · obtain ⟨p1, p2, _⟩ := dvalid_parts hq
    have HR : Hid (dinitE d = (⟨oneB d.net d.net.source, d.init⟩, 0)) := by show _ = _; rw [HD.out, hq]; rfl
    have HO : Hid (oneE d.net d.net.source = (oneB d.net d.net.source, 0)) := by show _ = _; unfold oneE; rw [p1]; rfl
    have HL := Lib.hid (asg_len p2)
    clear hq p1 p2
    go_wp2_with fail
    refine (initial_any d.net _ _ hn2).mono ?_
    rintro e w3 ⟨mv, rfl, hm, hb3⟩
    rw [HO.out] at hm ⊢
    dsimp only at hm ⊢
    generalize oneB d.net d.net.source = ms at *
    obtain ⟨Am, cm, rfl, m1, m2, hm⟩ := hm.open_
    have hbw3 := bthen hbw2 hb3
    have hB3 := hB2.now hb3
    have hC3 := hC2.now hb3
    have hi3 := hi2.now hb3
    clear q0 q1 q2 q3 q4 q5 q6 q7 y0 y1 hB2 hC2 hn2 hi2 hb3
    obtain ⟨q0, q1, q2, q3, q4, q5, q6, q7⟩ := hB3.c8
    go_wp2_with fail
    refine (cloneV _ d.init _ hi3 (by have := HL.out; omega)).mono ?_
    rintro e w4 ⟨cv, rfl, hown, hb4⟩
    have hcv := hown.sl hi3.fits
    obtain ⟨Av, kv, rfl, k1, k2, hcv⟩ := hcv.open_
    have hbw4 := bthen hbw3 hb4
    have hC4 := hC3.now hb4
    have hm4 := hm.now hb4
    clear q0 q1 q2 q3 q4 q5 q6 q7 hB3 hC3 hb4 hown hi3 hm
    obtain ⟨y0, y1⟩ := hC4.c2
    have z0 := hC4.frozen 0
    have z1 := hC4.frozen 1
    go_wp2_with fail
    obtain ⟨t0, t1⟩ := (hC4.set2 (.slice Am ms.length cm) (.slice Av d.init.length kv)).c2
    refine bodyPost_ret (v := .tuple #[.agg #[.slice Am ms.length cm, .slice Av d.init.length kv], .int .i64 0]) (by simp [results, Tryz.results22, go_sem, t0, t1]) rfl ?_
    rw [HR.out]
    refine ⟨_, rfl, ⟨_, _, rfl, ?_, ?_⟩, bset2 hbw4 (by omega) _ _⟩
    · exact SlI.set2 hm4 hC4 _ _
    · exact SlV.set2 hcv hC4 _ _
end Go.Proofs.YtlmenhjlgmejkaaGreatDoor

namespace Go.Proofs.YtlmenhjlgmejkaaGreatDoor
open Go.RowKit
def Fr (B : Nat) (w : World) (b : Nat) : Prop := B ≤ b ∧ b < w.heap.size
theorem SlI.weak {B : Nat} {w : World} {v : Value} {zs : List Int} (h : SlI (Fr B w) w v zs) : SlI (Lt w.heap.size) w v zs := Sl.keep h RInt.kept (fun _ hb => hb.2) (Same.refl _ _)
theorem SlI.nowF {B : Nat} {w w' : World} {v : Value} {zs : List Int} (h : SlI (Fr B w) w v zs) (hb : Below w.heap.size w w') : SlI (Fr B w') w' v zs :=
  Sl.keep h RInt.kept (fun _ hx => ⟨hx.1, Nat.lt_of_lt_of_le hx.2 hb.size⟩) (fun b hx => hb.block b hx.2)
theorem SlI.from_ {B B' : Nat} {w : World} {v : Value} {zs : List Int} (h : SlI (Fr B w) w v zs) (hb : B' ≤ B) : SlI (Fr B' w) w v zs :=
  Sl.keep h RInt.kept (fun _ hx => ⟨Nat.le_trans hb hx.1, hx.2⟩) (Same.refl _ _)
theorem fresh_own {w : World} {base B g cap : Nat} {zs : List Int} (h : OwnI w base 3 g cap zs) (hB : B ≤ base) (hf : ∀ z ∈ zs, Fit z) : SlI (Fr B w) w (.slice (some ⟨g, 0, none⟩) zs.length cap) zs :=
  Sl.of_own1 h.1 (by simp) (fun q hq => by have := h.1.lt q hq; exact ⟨by omega, this.2⟩) fun i x hx => ⟨.int .i64 x, by simp [hx], rfl, hf x (List.mem_of_getElem? hx)⟩
def RetIF (zs : List Int) (c : Int) (w : World) (e : Ending) (w' : World) : Prop := ∃ v, e = .returned (.tuple #[v, .int .i64 c]) ∧ SlI (Fr w.heap.size w') w' v zs ∧ Below w.heap.size w w'
set_option maxHeartbeats 1000000 in
theorem fireF_any (n : Net) (v mv : Value) (m : List Int) (t : Int) (w : World) (h : IsNet (Lt w.heap.size) w v n) (hm : SlI (Lt w.heap.size) w mv m) (hv : validB n = true) (hk : markingB n.places m = true) :
    Calls Tryz.prog 91 #[v, mv, .int .i64 t] w (RetIF (fireB n m t).1 (fireB n m t).2 w) := by
  obtain ⟨v1, v2, v3, v4⟩ := validOk hv
  obtain ⟨hml, hmw⟩ := markOk hk
  clear hv hk
  obtain ⟨tv, rfl, hp, hs, hkk, ht⟩ := h
  obtain ⟨A, c, rfl, h1, h2, ht⟩ := ht.open_
  by_cases h0 : t < 0
  · rw [fireB_none (.inl h0)]
    go_enter Tryz.func91, Tryz.ntmps91
    go_wp2_with fail
    go_ret2
    exact ⟨_, rfl, Sl.none_, bone _ _⟩
  obtain ⟨k, rfl⟩ := Int.eq_ofNat_of_zero_le (Int.not_lt.1 h0)
  by_cases h3 : n.trans.length ≤ k
  · rw [fireB_none (.inr (by omega))]
    go_enter Tryz.func91, Tryz.ntmps91
    go_wp2_with fail
    go_ret2
    exact ⟨_, rfl, Sl.none_, bone _ _⟩
  have hkl : k < n.trans.length := by omega
  have hb := bone w (Obj.cells #[Value.int IntKind.i64 n.places, Value.slice A n.trans.length c, Value.int IntKind.i64 n.source, Value.int IntKind.i64 n.sink] 24)
  obtain ⟨b, o, x, iv, ov, rfl, hD, hx, hl, hti, hto, c0, c1, c2⟩ := (ht.now hb).at_ hkl
  rw [fireB_some hx]
  obtain ⟨Ai, ci, rfl, i1, i2, hti⟩ := hti.open_
  obtain ⟨Ao, co, rfl, o1, o2, hto⟩ := hto.open_
  obtain ⟨pi, po⟩ := trPlaces (v4 x (List.mem_of_getElem? hx))
  have li := places_len pi
  have lo := places_len po
  have hin : Inside x.ins m := fun p hp => by have := places_mem pi p hp; omega
  have hout : Inside x.outs m := fun p hp => by have := places_mem po p hp; omega
  have hnn : NonNeg m := fun z hz => (hmw z hz).1
  have hm0 : 0 < m.length := by omega
  have HMW := Lib.hid hmw
  clear hx v4 pi po hmw h0 h3
  go_enter Tryz.func91, Tryz.ntmps91
  go_wp2_with fail
  have hm1 := hm.now (bbox hb (.cells #[.string x.label, .slice Ai x.ins.length ci, .slice Ao x.outs.length co] 112))
  have hti1 := hti.now (bone _ (.cells #[.string x.label, .slice Ai x.ins.length ci, .slice Ao x.outs.length co] 112))
  have hto1 := hto.now (bone _ (.cells #[.string x.label, .slice Ai x.ins.length ci, .slice Ao x.outs.length co] 112))
  have hT1 := Blk.new (w.alloc (.cells #[Value.int IntKind.i64 n.places, Value.slice (some ⟨b, o, none⟩) n.trans.length c, Value.int IntKind.i64 n.source, Value.int IntKind.i64 n.sink] 24)) 112 #[.string x.label, .slice Ai x.ins.length ci, .slice Ao x.outs.length co]
  refine (enabled_any x _ _ m _ ⟨_, _, rfl, hl, hti1, hto1⟩ hm1 hin hnn).mono ?_
  rintro e w1 ⟨rfl, hb1⟩
  have hm2 := hm1.now hb1
  have hti2 := hti1.now hb1
  have hto2 := hto1.now hb1
  have hT2 := hT1.now hb1
  have hbw1 := bthen (bbox hb (.cells #[.string x.label, .slice Ai x.ins.length ci, .slice Ao x.outs.length co] 112)) hb1
  simp only [World.size_alloc] at hT2
  clear hm1 hti1 hto1 hT1 hti hto hm hb hb1 c0 c1 c2
  generalize hc : canB x.ins m = q
  have HC := Lib.hid hc
  clear hc
  cases q
  · have HE : Hid (fireT x m = ([], 12)) := by show fireT x m = _; unfold fireT; rw [HC.out]; rfl
    go_wp2_with fail
    go_ret2
    rw [HE.out]
    exact ⟨_, rfl, Sl.none_, hbw1⟩
  · go_wp2_with fail
    refine (cloneI _ m _ hm2 (by omega)).mono ?_
    rintro e w2 ⟨vo, rfl, hown, hb2⟩
    obtain ⟨g, cap, rfl, hcap, hown⟩ := OwnI.of hown hm0
    clear hm2
    obtain ⟨r0, r1, r2⟩ := (hT2.now hb2).c3
    go_wp2_with fail
    clear r0 r1 r2
    go_loopw [37] (fun i wr => ∃ j : Nat, j ≤ x.ins.length ∧ i = .int .i64 j ∧ OwnI wr w1.heap.size 3 g cap (bump (-1) m (x.ins.take j)) ∧ Below w1.heap.size w1 wr) (fun i _ => x.ins.length - (intOf i).toNat)
    case atStart => exact ⟨0, Nat.zero_le _, rfl, hown, hb2⟩
    case round =>
      obtain ⟨j, hj, rfl, howr, hbr⟩ := hrel
      obtain ⟨r0, r1, r2⟩ := (hT2.now hbr).c3
      have hgb := howr.from_
      by_cases hlt : j < x.ins.length
      · obtain ⟨b1, o1', p, rfl, hD1, hx1, hf1, d1⟩ := (hti2.now hbr).at_ hlt
        obtain ⟨hp0, hp1⟩ := hin p (List.mem_of_getElem? hx1)
        obtain ⟨y, rfl⟩ := Int.eq_ofNat_of_zero_le hp0
        rw [Int.toNat_natCast] at hp1
        have hyl : y < (bump (-1) m (x.ins.take j)).length := by rw [bump_length]; exact hp1
        have hcell := howr.cell (get_of_within hyl)
        have hfro := howr.frozen y
        have hwi := within_get (within_bump (-1) (.inr rfl) (x.ins.take j) 0 100 _ HMW.out (by omega) (by omega) (fun q hq => (hin q (List.mem_of_mem_take hq)).2)) hyl
        rw [List.length_take, Nat.min_eq_left hj] at hwi
        have HS : Hid (bump (-1) m (x.ins.take (j + 1)) = (bump (-1) m (x.ins.take j)).set y ((bump (-1) m (x.ins.take j)).getD y 0 + (-1))) := by
          have := bump_snoc (-1) m x.ins j _ hx1
          unfold bump1 at this
          rwa [Int.toNat_natCast] at this
        generalize hz : (bump (-1) m (x.ins.take j)).getD y 0 = z at hcell hwi HS
        clear hz hx1 hf1 hD1
        go_wp2_with fail
        go_roundw
        case rel =>
          refine ⟨j + 1, by omega, by go_num, ?_, hbr.setCell hgb _⟩
          rw [HS.out]
          exact howr.set_ y _
        case measure => simp [intOf]; omega
      · obtain rfl : j = x.ins.length := by omega
        rw [List.take_of_length_le (Nat.le_refl _)] at howr
        have HW1 : Hid (Within (-40) 140 (bump (-1) m x.ins)) := within_mono (within_bump (-1) (.inr rfl) x.ins 0 100 m HMW.out (by omega) (by omega) (fun q hq => (hin q hq).2)) (by omega) (by omega)
        obtain ⟨wi, rfl⟩ : ∃ wi : World, wi = wr := ⟨_, rfl⟩
        have howi := howr
        have hbi := hbr
        clear howr
        go_wp2_with fail
        go_loopw [51] (fun i wr => ∃ j : Nat, j ≤ x.outs.length ∧ i = .int .i64 j ∧ OwnI wr w1.heap.size 3 g cap (bump 1 (bump (-1) m x.ins) (x.outs.take j)) ∧ Below w1.heap.size w1 wr) (fun i _ => x.outs.length - (intOf i).toNat)
        case atStart => exact ⟨0, Nat.zero_le _, rfl, howi, hbi⟩
        case round =>
          obtain ⟨j, hj, rfl, howr, hbr⟩ := hrel
          obtain ⟨r0, r1, r2⟩ := (hT2.now hbr).c3
          have hgb := howr.from_
          by_cases hlt : j < x.outs.length
          · obtain ⟨b1, o1', p, rfl, hD1, hx1, hf1, d1⟩ := (hto2.now hbr).at_ hlt
            obtain ⟨hp0, hp1⟩ := hout p (List.mem_of_getElem? hx1)
            obtain ⟨y, rfl⟩ := Int.eq_ofNat_of_zero_le hp0
            rw [Int.toNat_natCast] at hp1
            have hyl : y < (bump 1 (bump (-1) m x.ins) (x.outs.take j)).length := by rw [bump_length]; rw [bump_length]; exact hp1
            have hcell := howr.cell (get_of_within hyl)
            have hfro := howr.frozen y
            have hwi := within_get (within_bump 1 (.inl rfl) (x.outs.take j) (-40) 140 _ HW1.out (by omega) (by omega) (fun q hq => by rw [bump_length]; exact (hout q (List.mem_of_mem_take hq)).2)) hyl
            rw [List.length_take, Nat.min_eq_left hj] at hwi
            have HS : Hid (bump 1 (bump (-1) m x.ins) (x.outs.take (j + 1)) = (bump 1 (bump (-1) m x.ins) (x.outs.take j)).set y ((bump 1 (bump (-1) m x.ins) (x.outs.take j)).getD y 0 + 1)) := by
              have := bump_snoc 1 (bump (-1) m x.ins) x.outs j _ hx1
              unfold bump1 at this
              rwa [Int.toNat_natCast] at this
            generalize hz : (bump 1 (bump (-1) m x.ins) (x.outs.take j)).getD y 0 = z at hcell hwi HS
            clear hz hx1 hf1 hD1
            go_wp2_with fail
            go_roundw
            case rel =>
              refine ⟨j + 1, by omega, by go_num, ?_, hbr.setCell hgb _⟩
              rw [HS.out]
              exact howr.set_ y _
            case measure => simp [intOf]; omega
          · obtain rfl : j = x.outs.length := by omega
            rw [List.take_of_length_le (Nat.le_refl _)] at howr
            have hfin : OwnI wr w1.heap.size 3 g cap (outOf x m) := howr
            have hlen : (outOf x m).length = m.length := by unfold outOf; rw [bump_length, bump_length]
            have hfits := within_fit (within_bump 1 (.inl rfl) x.outs (-40) 140 _ HW1.out (by omega) (by omega) (fun q hq => by rw [bump_length]; exact (hout q hq).2)) (by omega) (by omega)
            have HSL := Lib.hid (hfin.sl hfits)
            have HSF : Hid (SlI (Fr w.heap.size wr) wr (.slice (some ⟨g, 0, none⟩) m.length cap) (outOf x m)) := by rw [← hlen]; exact fresh_own hfin hbw1.size hfits
            have HBW := Lib.hid (bthen hbw1 hbr)
            have HMX : Hid (Calls Tryz.prog 133 #[.slice (some ⟨g, 0, none⟩) m.length cap] wr fun e w' => e = .returned (.int .i64 (Lib.maxOf (outOf x m))) ∧ w' = wr) := by
              have := maxI _ _ wr HSL.out (by omega)
              rwa [hlen] at this
            rw [hlen] at HSL
            clear howr hfin hlen hfits hbr r0 r1 r2
            by_cases hmx : 100 < Lib.maxOf (outOf x m)
            · have HE : Hid (fireT x m = ([], 5)) := by show fireT x m = _; unfold fireT; rw [HC.out, if_pos hmx]; rfl
              generalize Lib.maxOf (outOf x m) = mx at HMX hmx
              go_wp2_with (go_at_call 133; refine HMX.out.mono ?_; rintro e w' ⟨rfl, rfl⟩)
              go_ret2
              rw [HE.out]
              exact ⟨_, rfl, Sl.none_, HBW.out⟩
            · have HE : Hid (fireT x m = (outOf x m, 0)) := by show fireT x m = _; unfold fireT; rw [HC.out, if_neg hmx]; rfl
              generalize Lib.maxOf (outOf x m) = mx at HMX hmx
              go_wp2_with (go_at_call 133; refine HMX.out.mono ?_; rintro e w' ⟨rfl, rfl⟩)
              go_ret2
              rw [HE.out]
              exact ⟨_, rfl, HSF.out, HBW.out⟩
set_option maxHeartbeats 1000000 in
theorem firePF_any (n : Net) (v mv : Value) (m : List Int) (t : Int) (w : World) (h : IsNet (Lt w.heap.size) w v n) (hm : SlI (Lt w.heap.size) w mv m) :
    Calls Tryz.prog 47 #[v, mv, .int .i64 t] w (RetIF (fireE n m t).1 (fireE n m t).2 w) := by
  have h0 := h
  obtain ⟨tv, rfl, hp, hs, hkk, ht⟩ := h
  obtain ⟨A, c, rfl, h1, h2, ht⟩ := ht.open_
  go_enter Tryz.func47, Tryz.ntmps47
  go_wp2_with fail
  have hb := bone w (Obj.cells #[Value.int IntKind.i64 n.places, Value.slice A n.trans.length c, Value.int IntKind.i64 n.source, Value.int IntKind.i64 n.sink] 24)
  refine (marking_any n _ _ m _ (h0.now hb) (hm.now hb)).mono ?_
  rintro e w1 ⟨rfl, hb1⟩
  have hbw := bthen hb hb1
  obtain ⟨q0, q1, q2, q3⟩ := ((Blk.new w 24 #[.int .i64 n.places, .slice A n.trans.length c, .int .i64 n.source, .int .i64 n.sink]).now hb1).c4
  generalize hq : (validB n && markingB n.places m) = q
  have HQ := Lib.hid hq
  clear hq
  cases q
  · have HE : Hid (fireE n m t = ([], 1)) := by show fireE n m t = _; unfold fireE; rw [HQ.out]; rfl
    go_wp2_with fail
    go_ret2
    rw [HE.out]
    exact ⟨_, rfl, Sl.none_, hbw⟩
  · have HE : Hid (fireE n m t = fireB n m t) := by show fireE n m t = _; unfold fireE; rw [HQ.out]; rfl
    have hvm := HQ.out
    rw [Bool.and_eq_true] at hvm
    have HF := Lib.hid (fireF_any n _ _ m t w1 (h0.now hbw) (hm.now hbw) hvm.1 hvm.2)
    clear hvm
    go_wp2_with fail
    refine HF.out.mono ?_
    rintro e w2 ⟨v', rfl, hsl, hb2⟩
    clear HF
    generalize fireB n m t = r at *
    go_wp2_with fail
    go_ret2
    rw [HE.out]
    exact ⟨_, rfl, Sl.keep hsl RInt.kept (fun b hb => ⟨Nat.le_trans hbw.size hb.1, hb.2⟩) (Same.refl _ _), bthen hbw hb2⟩
end Go.Proofs.YtlmenhjlgmejkaaGreatDoor

namespace Go.Proofs.YtlmenhjlgmejkaaGreatDoor
open Go.Lib
theorem digitVal_of {d : Nat} (h : d < 10) : digitVal (UInt8.ofNat (48 + d)) = some d := by
  unfold digitVal
  have e : (UInt8.ofNat (48 + d)).toNat = 48 + d := by
    rw [UInt8.toNat_ofNat']
    exact Nat.mod_eq_of_lt (by omega)
  rw [e, if_pos (by omega)]
  congr 1
  omega
theorem decFrom_append (l m : List UInt8) : ∀ acc, decFrom acc (l ++ m) = (decFrom acc l).bind fun n => decFrom n m := by
  induction l with
  | nil => intro acc; rfl
  | cons b r ih =>
    intro acc
    rw [List.cons_append]
    cases h : digitVal b with
    | none => simp [decFrom, h]
    | some d =>
      have e1 : decFrom acc (b :: (r ++ m)) = decFrom (acc * 10 + d) (r ++ m) := by simp only [decFrom, h]
      have e2 : decFrom acc (b :: r) = decFrom (acc * 10 + d) r := by simp only [decFrom, h]
      rw [e1, e2]
      exact ih _
theorem decFrom_digits (u : Nat) : decFrom 0 (decDigits u) = some u := by
  induction u using Nat.strongRecOn with
  | _ u ih =>
    rw [decDigits]
    by_cases h : u < 10
    · rw [dif_pos h]
      unfold decFrom
      rw [digitVal_of h]
      simp [decFrom]
    · rw [dif_neg h, decFrom_append, ih (u / 10) (by omega)]
      show decFrom (u / 10) [UInt8.ofNat (48 + u % 10)] = some u
      unfold decFrom
      rw [digitVal_of (by omega)]
      show some (u / 10 * 10 + u % 10) = some u
      congr 1
      omega
theorem decDigits_ne (u : Nat) : decDigits u ≠ [] := by
  intro h
  have := decDigits_length u
  rw [h] at this
  have := nDigits_pos u
  simp at *
  omega
theorem decNat_digits (u : Nat) : decNat (decDigits u) = some u := by
  unfold decNat
  have : (decDigits u).isEmpty = false := by
    cases h : decDigits u with
    | nil => exact absurd h (decDigits_ne u)
    | cons a l => rfl
  rw [this]
  exact decFrom_digits u
theorem decDigits_digit (u : Nat) : ∀ b ∈ decDigits u, 48 ≤ b.toNat ∧ b.toNat ≤ 57 := by
  intro b hb
  have h := decFrom_digits u
  have key : ∀ (l : List UInt8) (acc n : Nat), decFrom acc l = some n → ∀ b ∈ l, 48 ≤ b.toNat ∧ b.toNat ≤ 57 := by
    intro l
    induction l with
    | nil => intro acc n _ b hb; simp at hb
    | cons c r ih =>
      intro acc n h b hb
      unfold decFrom at h
      cases hd : digitVal c with
      | none => rw [hd] at h; cases h
      | some d =>
        rw [hd] at h
        rcases List.mem_cons.1 hb with rfl | hb
        · unfold digitVal at hd
          split at hd
          · assumption
          · cases hd
        · exact ih _ _ h b hb
  exact key _ _ _ h b hb
theorem decDigits_head (u : Nat) : ∃ c r, decDigits u = c :: r ∧ 48 ≤ c.toNat ∧ c.toNat ≤ 57 := by
  cases h : decDigits u with
  | nil => exact absurd h (decDigits_ne u)
  | cons c r => exact ⟨c, r, rfl, decDigits_digit u c (by rw [h]; simp)⟩
theorem atoi_digits (u : Nat) : atoi (decDigits u) = some (u : Int) := by
  obtain ⟨c, r, h, h1, h2⟩ := decDigits_head u
  have hd := decNat_digits u
  rw [h] at hd ⊢
  unfold atoi
  have e1 : (c == 45) = false := by rw [beq_eq_false_iff_ne]; rintro rfl; simp at h1
  have e2 : (c == 43) = false := by rw [beq_eq_false_iff_ne]; rintro rfl; simp at h1
  show (if (c == 45) = true then _ else if (c == 43) = true then _ else Option.map _ (decNat (c :: r))) = _
  rw [e1, e2, hd]
  rfl
theorem atoi_itoa (n : Int) : atoi (itoa n) = some n := by
  rcases Int.lt_or_le n 0 with h | h
  · obtain ⟨u, rfl⟩ : ∃ u : Nat, n = -(u : Int) := ⟨n.natAbs, by omega⟩
    rw [itoa_neg u (by omega)]
    unfold atoi
    have e1 : ((45 : UInt8) == 45) = true := rfl
    show (if ((45 : UInt8) == 45) = true then Option.map _ (decNat (Lib.decDigits u)) else _) = _
    rw [e1, if_pos rfl, decNat_digits]
    rfl
  · obtain ⟨u, rfl⟩ := Int.eq_ofNat_of_zero_le h
    rw [itoa_nonneg]
    exact atoi_digits u
theorem itoa_inj {a b : Int} (h : itoa a = itoa b) : a = b := by
  have h1 := atoi_itoa a
  rw [h, atoi_itoa b] at h1
  injection h1 with h1
  exact h1.symm
theorem nDigits_le {u k : Nat} (hk : 1 ≤ k) (h : u < 10 ^ k) : nDigits u ≤ k := by
  rcases Nat.lt_or_ge k (nDigits u) with h1 | h1
  · exfalso
    have key : ∀ v, 2 ≤ nDigits v → 10 ^ (nDigits v - 1) ≤ v := by
      intro v
      induction v using Nat.strongRecOn with
      | _ v ih =>
        intro h2
        by_cases h10 : v < 10
        · rw [nDigits_small h10] at h2; omega
        · rw [nDigits_big h10]
          by_cases h3 : v / 10 < 10
          · rw [nDigits_small h3]; simp; omega
          · have := ih (v / 10) (by omega) (by rw [nDigits_big h3]; have := nDigits_pos (v / 10 / 10); omega)
            have e : nDigits (v / 10) + 1 - 1 = (nDigits (v / 10) - 1) + 1 := by have := nDigits_pos (v / 10); omega
            rw [e, Nat.pow_succ]
            omega
    have h2 := key u (by omega)
    have h3 : 10 ^ k ≤ 10 ^ (nDigits u - 1) := Nat.pow_le_pow_right (by omega) (by omega)
    omega
  · exact h1
theorem itoa_length {n : Int} (h1 : -1000000000000000000 < n) (h2 : n < 1000000000000000000) : (itoa n).length ≤ 19 := by
  rcases Int.lt_or_le n 0 with h | h
  · obtain ⟨u, rfl⟩ : ∃ u : Nat, n = -(u : Int) := ⟨n.natAbs, by omega⟩
    rw [itoa_neg u (by omega), List.length_cons, decDigits_length]
    have := nDigits_le (u := u) (k := 18) (by omega) (by omega)
    omega
  · obtain ⟨u, rfl⟩ := Int.eq_ofNat_of_zero_le h
    rw [itoa_nonneg, decDigits_length]
    have := nDigits_le (u := u) (k := 18) (by omega) (by omega)
    omega
end Go.Proofs.YtlmenhjlgmejkaaGreatDoor

namespace Go.Proofs.YtlmenhjlgmejkaaGreatDoor
open Go.RowKit
def readB : List UInt8 → List UInt8 → Int × List UInt8 × List UInt8
  | _, [] => (4, [], [])
  | acc, c :: r =>
    if c.toNat = 34 then (0, acc, r)
    else if c.toNat = 92 then
      match r with
      | [] => (4, [], [])
      | d :: r' => if d.toNat = 34 ∨ d.toNat = 92 then readB (acc ++ [d]) r' else (3, [], [])
    else readB (acc ++ [c]) r
theorem read_end {acc r : List UInt8} {c : UInt8} (h : c.toNat = 34) : readB acc (c :: r) = (0, acc, r) := by rw [readB.eq_def]; exact if_pos h
theorem read_esc {acc r : List UInt8} {c d : UInt8} (h1 : c.toNat ≠ 34) (h2 : c.toNat = 92) (h3 : d.toNat = 34 ∨ d.toNat = 92) : readB acc (c :: d :: r) = readB (acc ++ [d]) r := by rw [readB, if_neg h1, if_pos h2, if_pos h3]
theorem read_one {acc r : List UInt8} {c : UInt8} (h1 : c.toNat ≠ 34) (h2 : c.toNat ≠ 92) : readB acc (c :: r) = readB (acc ++ [c]) r := by rw [readB.eq_def]; exact (if_neg h1).trans (if_neg h2)
theorem escC_esc {c : UInt8} (h : c.toNat = 34 ∨ c.toNat = 92) : escC c = [92, c] := if_pos h
theorem escC_one {c : UInt8} (h : ¬ (c.toNat = 34 ∨ c.toNat = 92)) : escC c = [c] := if_neg h
theorem read_quote (t rest : List UInt8) : ∀ acc, readB acc (escB t ++ 34 :: rest) = (0, acc ++ t, rest) := by
  induction t with
  | nil => intro acc; rw [show escB [] ++ 34 :: rest = 34 :: rest from rfl, read_end rfl, List.append_nil]
  | cons c t ih =>
    intro acc
    have e : escB (c :: t) = escC c ++ escB t := by unfold escB; rw [List.flatMap_cons]
    rw [e, List.append_assoc]
    by_cases h : c.toNat = 34 ∨ c.toNat = 92
    · rw [escC_esc h, List.cons_append, List.cons_append, List.nil_append, read_esc (by decide) rfl h, ih, List.append_assoc]; rfl
    · rw [escC_one h, List.cons_append, List.nil_append, read_one (fun e => h (.inl e)) (fun e => h (.inr e)), ih, List.append_assoc]; rfl
def endE : Int × List UInt8 × List UInt8 → ByteArray × Int
  | (0, t, []) => if 16384 < t.length then (⟨#[]⟩, 5) else (⟨t.toArray⟩, 0)
  | (0, _, _ :: _) => (⟨#[]⟩, 3)
  | (e, _, _) => (⟨#[]⟩, e)
def headB (l : List UInt8) : Bool := match l with
  | [] => false
  | c :: _ => decide (c.toNat = 34)
def unquoteE (s : ByteArray) : ByteArray × Int :=
  if 32770 < s.size then (⟨#[]⟩, 5)
  else if headB s.data.toList && plainS s then endE (readB [] (s.data.toList.drop 1)) else (⟨#[]⟩, 3)
theorem size_list (t : ByteArray) : t.data.toList.length = t.size := Array.length_toList
theorem quote_size (t : ByteArray) : (quoteS t).size ≤ 2 * t.size + 2 := by
  have := escB_len t.data.toList
  unfold quoteS quoteL
  simp only [ByteArray.size, List.size_toArray, List.length_cons, List.length_append, List.length_nil]
  have e : t.data.toList.length = t.data.size := by simp
  omega
def okOf : Lib.NumEnd Int → Option Int
  | .ok n => some n
  | _ => none
def numOf (s : ByteArray) : Option Int := (okOf (Lib.atoiAll s.data.toList)).bind fun n => if numB n && decide (itoaS n = s) then some n else none
def txtOf (s : ByteArray) : Option ByteArray := if (unquoteE s).2 = 0 ∧ textB (unquoteE s).1 = true then some (unquoteE s).1 else none
def parseE (s : ByteArray) : Val × Int :=
  if s = trueS then (⟨1, 1, ⟨#[]⟩⟩, 0) else if s = falseS then (⟨1, 0, ⟨#[]⟩⟩, 0) else
  match numOf s with
  | some n => (⟨2, n, ⟨#[]⟩⟩, 0)
  | none => match txtOf s with
    | some t => (⟨3, 0, t⟩, 0)
    | none => (⟨0, 0, ⟨#[]⟩⟩, 3)
end Go.Proofs.YtlmenhjlgmejkaaGreatDoor

namespace Go.Proofs.YtlmenhjlgmejkaaGreatDoor
open Go.RowKit
structure Mv where
  src : Nat
  dst : Nat
  sym : Nat
deriving DecidableEq
structure Sp where
  states : List St
  moves : List Mv
  full : Bool
deriving DecidableEq
def noSp : Sp := ⟨[], [], false⟩
def idxS (l : List St) (s : St) : Option Nat := l.findIdx? (fun x => decide (x = s))
def exT (n : DNet) (most i : Nat) (s : St) (t : Nat) (p : Sp) : Option Sp :=
  if (fireD n s (t : Int)).2 ≠ 0 then some ⟨p.states, p.moves, p.full && decide ((fireD n s (t : Int)).2 ≠ 5)⟩
  else match idxS p.states (fireD n s (t : Int)).1 with
    | some k => if p.moves.length < 20000 then some ⟨p.states, p.moves ++ [⟨i, k, t⟩], p.full⟩ else none
    | none => if p.states.length < most then (if p.moves.length < 20000 then some ⟨p.states ++ [(fireD n s (t : Int)).1], p.moves ++ [⟨i, p.states.length, t⟩], p.full⟩ else none)
      else some ⟨p.states, p.moves, false⟩
def exRow (n : DNet) (most i : Nat) (s : St) : Nat → Nat → Sp → Option Sp
  | 0, _, p => some p
  | f + 1, t, p => (exT n most i s t p).bind fun q => exRow n most i s f (t + 1) q
def exAll (n : DNet) (most : Nat) : Nat → Nat → Sp → Option Sp
  | 0, _, p => some p
  | f + 1, i, p => match p.states[i]? with
    | none => some p
    | some s => (exRow n most i s n.net.trans.length 0 p).bind fun q => exAll n most f (i + 1) q
def exFrom (n : DNet) (s : St) (most : Nat) : Option Sp := exAll n most (most + 1) 0 ⟨[s], [], true⟩
def dexplE (n : DNet) (s : St) (most : Int) : Sp × Int :=
  if vstateB n s = false then (noSp, 1)
  else if most < 1 ∨ 2000 < most then (noSp, 2)
  else match exFrom n s most.toNat with
    | none => (noSp, 13)
    | some p => (p, 0)
def dwholeE (n : DNet) (most : Int) : Sp × Int :=
  if dvalidB n = false then (noSp, 1)
  else if (dexplE n ⟨oneB n.net n.net.source, n.init⟩ most).2 = 0 ∧ (dexplE n ⟨oneB n.net n.net.source, n.init⟩ most).1.full = false then (noSp, 13)
  else dexplE n ⟨oneB n.net n.net.source, n.init⟩ most
def canStep (mv : List Mv) (c : List Bool) : List Bool := (List.range c.length).map fun i => (c.getD i false) || mv.any fun m => decide (m.src = i) && c.getD m.dst false
def canIter (mv : List Mv) : Nat → List Bool → List Bool
  | 0, c => c
  | k + 1, c => canIter mv k (canStep mv c)
def goodL (n : DNet) (p : Sp) : List Bool := canIter p.moves p.states.length (p.states.map fun s => finalM n s.marks)
def badS (n : DNet) (s : St) (good : Bool) : Bool := !good || (decide (0 < s.marks.getD n.net.sink.toNat 0) && !finalM n s.marks)
def badAt (n : DNet) (p : Sp) (i : Nat) : Bool := badS n (p.states.getD i noSt) ((goodL n p).getD i false)
def byM (mv : List Mv) (k : Nat) : Option Mv := mv.find? fun m => decide (m.dst = k) && decide (m.src < m.dst)
def backD (mv : List Mv) : Nat → Nat → List Nat
  | 0, _ => []
  | f + 1, k => if k = 0 then [] else match byM mv k with
    | none => [0]
    | some m => m.sym :: backD mv f m.src
def pathD (mv : List Mv) (k : Nat) : List Int := (backD mv k k).reverse.map fun (t : Nat) => (t : Int)
def firstBad (n : DNet) (p : Sp) : Option Nat := (List.range p.states.length).find? (badAt n p)
def dsoundE (n : DNet) (most : Int) : Bool × List Int × Int :=
  if (dwholeE n most).2 ≠ 0 then (false, [], (dwholeE n most).2)
  else match firstBad n (dwholeE n most).1 with
    | none => (true, [], 0)
    | some i => (false, pathD (dwholeE n most).1.moves i, 0)
def deadL (n : DNet) (mv : List Mv) : List Int := ((List.range n.net.trans.length).filter fun t => !(mv.any fun m => decide (m.sym = t))).map fun (t : Nat) => (t : Int)
def ddeadE (n : DNet) (most : Int) : List Int × Int :=
  if (dwholeE n most).2 ≠ 0 then ([], (dwholeE n most).2) else (deadL n (dwholeE n most).1.moves, 0)
def keyM (m : List Int) : List UInt8 := m.flatMap fun k => Lib.itoa k ++ [32]
def keyV (vs : List Val) : List UInt8 := vs.flatMap fun v => (textE v).1.data.toList ++ [32]
def keyS (s : St) : List UInt8 := keyM s.marks ++ keyV s.vals
theorem itoa_noblank (k : Int) : ∀ b ∈ Lib.itoa k, b ≠ 32 := by
  intro b hb e
  subst e
  unfold Lib.itoa at hb
  split at hb
  · rcases List.mem_cons.1 hb with h | h
    · cases h
    · have := decDigits_digit _ _ h
      simp at this
  · have := decDigits_digit _ _ hb
    simp at this
theorem cut_blank {a b r t : List UInt8} (ha : ∀ c ∈ a, c ≠ 32) (hb : ∀ c ∈ b, c ≠ 32) (h : a ++ 32 :: r = b ++ 32 :: t) : a = b ∧ r = t := by
  induction a generalizing b with
  | nil =>
    cases b with
    | nil => exact ⟨rfl, by simpa using h⟩
    | cons c b =>
      simp only [List.nil_append, List.cons_append, List.cons.injEq] at h
      exact absurd h.1.symm (hb c (by simp))
  | cons c a ih =>
    cases b with
    | nil =>
      simp only [List.nil_append, List.cons_append, List.cons.injEq] at h
      exact absurd h.1 (ha c (by simp))
    | cons d b =>
      simp only [List.cons_append, List.cons.injEq] at h
      obtain ⟨h1, h2⟩ := ih (fun x hx => ha x (by simp [hx])) (fun x hx => hb x (by simp [hx])) h.2
      exact ⟨by rw [h.1, h1], h2⟩
theorem keyM_cons (k : Int) (m : List Int) (r : List UInt8) : keyM (k :: m) ++ r = Lib.itoa k ++ 32 :: (keyM m ++ r) := by simp [keyM]
theorem keyM_inj : ∀ {m m' : List Int} {r r' : List UInt8}, m.length = m'.length → keyM m ++ r = keyM m' ++ r' → m = m' ∧ r = r' := by
  intro m
  induction m with
  | nil =>
    intro m' r r' hl h
    cases m' with
    | nil => exact ⟨rfl, by simpa [keyM] using h⟩
    | cons => simp at hl
  | cons k m ih =>
    intro m' r r' hl h
    cases m' with
    | nil => simp at hl
    | cons k' m' =>
      rw [keyM_cons, keyM_cons] at h
      obtain ⟨h1, h2⟩ := cut_blank (itoa_noblank k) (itoa_noblank k') h
      obtain ⟨h3, h4⟩ := ih (by simpa using hl) h2
      exact ⟨by rw [itoa_inj h1, h3], h4⟩
theorem empty_noS {s : ByteArray} (h : noS s = true) : s = emptyS := by
  unfold noS at h
  have : s.toList = [] := by simpa using h
  rw [Lib.toList_data] at this
  cases s
  unfold emptyS
  congr 1
  exact Array.toList_inj.1 this
inductive Kinds : Val → Prop where
  | no : Kinds ⟨1, 0, emptyS⟩
  | yes : Kinds ⟨1, 1, emptyS⟩
  | num (n : Int) : Kinds ⟨2, n, emptyS⟩
  | txt (s : ByteArray) : Kinds ⟨3, 0, s⟩
theorem kinds_of {v : Val} (h : validV v = true) : Kinds v := by
  obtain ⟨k, n, s⟩ := v
  by_cases k1 : k = 1
  · subst k1
    obtain ⟨hn, hs⟩ := valid1 h rfl
    dsimp only at hn hs
    have := empty_noS hs
    subst this
    rcases hn with rfl | rfl
    · exact .no
    · exact .yes
  by_cases k2 : k = 2
  · subst k2
    obtain ⟨hn, hs⟩ := valid2 h rfl
    dsimp only at hn hs
    have := empty_noS hs
    subst this
    exact .num n
  · obtain ⟨k3, n0, ht⟩ := valid3 h k1 k2
    dsimp only at k3 n0 ht
    subst k3 n0
    exact .txt s
def heads (l : List UInt8) : Nat := match l with
  | c :: _ => if c.toNat = 34 then 2 else if c.toNat ≤ 57 then 1 else c.toNat
  | [] => 0
theorem heads_num (n : Int) (r : List UInt8) : heads (Lib.itoa n ++ r) = 1 := by
  unfold Lib.itoa
  split
  · rfl
  · obtain ⟨d, q, hd, h1, h2⟩ := decDigits_head n.toNat
    rw [hd]
    show (if d.toNat = 34 then 2 else if d.toNat ≤ 57 then 1 else d.toNat) = 1
    rw [if_neg (by omega), if_pos h2]
theorem text_cut {v v' : Val} (h : validV v = true) (h' : validV v' = true) {r t : List UInt8} (e : (textV v).data.toList ++ 32 :: r = (textV v').data.toList ++ 32 :: t) : v = v' ∧ r = t := by
  have hh : heads ((textV v).data.toList ++ 32 :: r) = heads ((textV v').data.toList ++ 32 :: t) := by rw [e]
  have hN : ∀ n : Int, (textV ⟨2, n, emptyS⟩).data.toList = Lib.itoa n := fun n => rfl
  have hQ : ∀ s : ByteArray, (textV ⟨3, 0, s⟩).data.toList = quoteL s.data.toList := fun n => rfl
  have h0 : (textV ⟨1, 0, emptyS⟩).data.toList = falseS.data.toList := rfl
  have h1 : (textV ⟨1, 1, emptyS⟩).data.toList = trueS.data.toList := rfl
  have b0 : ∀ c ∈ falseS.data.toList, c ≠ 32 := by decide
  have b1 : ∀ c ∈ trueS.data.toList, c ≠ 32 := by decide
  have g0 : ∀ q, heads (falseS.data.toList ++ q) = 102 := fun q => rfl
  have g1 : ∀ q, heads (trueS.data.toList ++ q) = 116 := fun q => rfl
  have g2 : ∀ s q, heads (quoteL s ++ q) = 2 := fun s q => rfl
  cases kinds_of h with
  | no =>
    cases kinds_of h' with
    | no => exact ⟨rfl, (cut_blank b0 b0 e).2⟩
    | yes => rw [h0, h1, g0, g1] at hh; cases hh
    | num n => rw [h0, hN, g0, heads_num] at hh; cases hh
    | txt s => rw [h0, hQ, g0, g2] at hh; cases hh
  | yes =>
    cases kinds_of h' with
    | no => rw [h0, h1, g0, g1] at hh; cases hh
    | yes => exact ⟨rfl, (cut_blank b1 b1 e).2⟩
    | num n => rw [h1, hN, g1, heads_num] at hh; cases hh
    | txt s => rw [h1, hQ, g1, g2] at hh; cases hh
  | num n =>
    cases kinds_of h' with
    | no => rw [h0, hN, g0, heads_num] at hh; cases hh
    | yes => rw [h1, hN, g1, heads_num] at hh; cases hh
    | num n' =>
      rw [hN, hN] at e
      obtain ⟨e1, e2⟩ := cut_blank (itoa_noblank n) (itoa_noblank n') e
      rw [itoa_inj e1]
      exact ⟨rfl, e2⟩
    | txt s => rw [hN, hQ, heads_num, g2] at hh; cases hh
  | txt s =>
    cases kinds_of h' with
    | no => rw [h0, hQ, g0, g2] at hh; cases hh
    | yes => rw [h1, hQ, g1, g2] at hh; cases hh
    | num n => rw [hN, hQ, heads_num, g2] at hh; cases hh
    | txt s' =>
      rw [hQ, hQ] at e
      unfold quoteL at e
      simp only [List.cons_append, List.append_assoc, List.nil_append, List.cons.injEq, true_and] at e
      have q1 := read_quote s.data.toList (32 :: r) []
      have q2 := read_quote s'.data.toList (32 :: t) []
      rw [e, q2] at q1
      simp only [Prod.mk.injEq, List.nil_append, List.cons.injEq, true_and] at q1
      obtain ⟨q3, q4⟩ := q1
      have : s = s' := by
        cases s; cases s'
        congr 1
        exact Array.toList_inj.1 q3.symm
      subst this
      exact ⟨rfl, q4.symm⟩
theorem keyV_cons {v : Val} (h : validV v = true) (vs : List Val) : keyV (v :: vs) = (textV v).data.toList ++ 32 :: keyV vs := by
  have : textE v = (textV v, 0) := by unfold textE; rw [h]; rfl
  unfold keyV
  rw [List.flatMap_cons, this, List.append_assoc]
  rfl
theorem keyV_inj : ∀ {m m' : List Val}, m.length = m'.length → (∀ v ∈ m, validV v = true) → (∀ v ∈ m', validV v = true) → keyV m = keyV m' → m = m' := by
  intro m
  induction m with
  | nil =>
    intro m' hl _ _ h
    cases m' with
    | nil => rfl
    | cons => simp at hl
  | cons k m ih =>
    intro m' hl a a' h
    cases m' with
    | nil => simp at hl
    | cons k' m' =>
      rw [keyV_cons (a k (by simp)), keyV_cons (a' k' (by simp))] at h
      obtain ⟨h1, h2⟩ := text_cut (a k (by simp)) (a' k' (by simp)) h
      have h3 := ih (by simpa using hl) (fun v hv => a v (by simp [hv])) (fun v hv => a' v (by simp [hv])) h2
      rw [h1, h3]
theorem keyS_inj {s s' : St} (hm : s.marks.length = s'.marks.length) (hv : s.vals.length = s'.vals.length) (a : ∀ v ∈ s.vals, validV v = true) (a' : ∀ v ∈ s'.vals, validV v = true) (h : keyS s = keyS s') : s = s' := by
  obtain ⟨h1, h2⟩ := keyM_inj hm h
  have h3 := keyV_inj hv a a' h2
  cases s; cases s'
  simp only at h1 h3
  rw [h1, h3]
end Go.Proofs.YtlmenhjlgmejkaaGreatDoor

namespace Go.Proofs.YtlmenhjlgmejkaaGreatDoor
open Go.RowKit
theorem typed_given {vs : List Var} {x : Ex} {k : Int} (h : typedB vs x k = true) : validX x = true ∧ varsB vs = true ∧ (typX vs x).2 = 0 ∧ (typX vs x).1 = k := by
  unfold typedB givenE at h
  rw [Bool.and_eq_true, decide_eq_true_eq, decide_eq_true_eq] at h
  by_cases hc : (validX x && varsB vs) = true
  · rw [if_pos hc] at h
    rw [Bool.and_eq_true] at hc
    exact ⟨hc.1, hc.2, h.1, h.2⟩
  · rw [if_neg hc] at h
    exact absurd h.1 (by decide)
theorem asg_parts {vs : List Var} {vals : List Val} (h : asgB vs vals = true) : varsB vs = true ∧ (∀ v ∈ vals, validV v = true) ∧ vals.length = vs.length ∧ PlacedTo vs vals vs.length := by
  unfold asgB inAllE at h
  by_cases ho : okB vs vals = true
  · rw [if_pos ho] at h
    obtain ⟨h1, h2⟩ := ok_vars ho
    obtain ⟨h3, h4⟩ := assigned_at (l := vs) (vs := vals) (by simpa using h)
    exact ⟨h1, h2, h3, h4⟩
  · rw [if_neg ho] at h; simp at h
theorem asg_mk {vs : List Var} {vals : List Val} (h1 : varsB vs = true) (h2 : ∀ v ∈ vals, validV v = true) (h3 : vals.length = vs.length) (h4 : PlacedTo vs vals vs.length) : asgB vs vals = true := by
  have ho : okB vs vals = true := by unfold okB; rw [h1, Bool.true_and, List.all_eq_true]; exact h2
  unfold asgB inAllE
  rw [if_pos ho, assigned_yes h3 h4]; rfl
theorem asg_typed {vs : List Var} {vals : List Val} (h : asgB vs vals = true) : Asg vs vals := by
  unfold asgB at h
  rw [Bool.and_eq_true, decide_eq_true_eq] at h
  exact asg_of h
theorem wrsV_ok {vs : List Var} {vals : List Val} (hA : Asg vs vals) : ∀ (l : List Wr) (a : Int) (cur out : List Val), -1 ≤ a → wrsB vs a l = true → cur.length = vs.length → (∀ v ∈ cur, validV v = true) → PlacedTo vs cur vs.length →
    wrsV vs vals l cur = some out → out.length = vs.length ∧ (∀ v ∈ out, validV v = true) ∧ PlacedTo vs out vs.length := by
  intro l
  induction l with
  | nil =>
    intro a cur out _ _ h1 h2 h3 h
    injection h with h
    subst h
    exact ⟨h1, h2, h3⟩
  | cons y l ih =>
    intro a cur out ha hw h1 h2 h3 h
    rw [wrsB] at hw
    simp only [Bool.and_eq_true, decide_eq_true_eq] at hw
    obtain ⟨⟨⟨w1, w2⟩, w3⟩, w4⟩ := hw
    obtain ⟨g1, g2, g3, _⟩ := typed_given w3
    rw [wrsV] at h
    cases he : evX vs vals y.x with
    | none => rw [he] at h; cases h
    | some b =>
      rw [he] at h
      dsimp only at h
      split at h
      · rename_i hp
        obtain ⟨k, hk⟩ := Int.eq_ofNat_of_zero_le (show 0 ≤ y.var by omega)
        have hkl : k < vs.length := by omega
        have hb := (ev_typed hA y.x (valid_ok g1) g3 b he).2
        have hpl : placeW vs y.var b = placeV vs[k] b := by
          unfold placeW; rw [hk, Int.toNat_natCast, List.getElem?_eq_getElem hkl]
        rw [hpl] at hp
        refine ih y.var _ out (by omega) w4 (by simpa using h1) ?_ ?_ h
        · intro v hv
          rcases List.mem_or_eq_of_mem_set hv with h' | h'
          · exact h2 v h'
          · rw [h']; exact hb
        · intro j x v hj hx hv
          rw [hk, Int.toNat_natCast, List.getElem?_set] at hv
          split at hv
          · rename_i hkj
            subst hkj
            rw [if_pos (by omega)] at hv
            injection hv with hv
            rw [List.getElem?_eq_getElem hkl] at hx
            injection hx with hx
            rw [← hx, ← hv]; exact hp
          · exact h3 j x v hj hx hv
      · cases h
theorem writes_at {n : DNet} (h : n.writes.all (wrsB n.vars (-1)) = true) (t : Nat) : wrsB n.vars (-1) ((n.writes[t]?).getD []) = true := by
  cases hw : n.writes[t]? with
  | none => rfl
  | some l =>
    rw [List.all_eq_true] at h
    exact h l (List.mem_of_getElem? hw)
theorem state_parts {n : DNet} {s : St} (h : stateB n s = true) : validB n.net = true ∧ markingB n.net.places s.marks = true ∧ asgB n.vars s.vals = true := by
  unfold stateB at h
  simp only [Bool.and_eq_true] at h
  exact ⟨h.1.1, h.1.2, h.2⟩
theorem state_mk {n : DNet} {s : St} (h1 : validB n.net = true) (h2 : markingB n.net.places s.marks = true) (h3 : asgB n.vars s.vals = true) : stateB n s = true := by
  unfold stateB; rw [h1, h2, h3]; rfl
theorem fire_parts {n : DNet} {s : St} {t : Int} (h : (fireD n s t).2 = 0) : 0 ≤ t ∧ t < n.net.trans.length ∧ (fireB n.net s.marks t).2 = 0 ∧ guardB n.vars s.vals ((n.guards[t.toNat]?).getD (.mk 0 noV emptyS [])) = true ∧
    ∃ vs, wrsV n.vars s.vals ((n.writes[t.toNat]?).getD []) s.vals = some vs ∧ fireD n s t = (⟨(fireB n.net s.marks t).1, vs⟩, 0) := by
  unfold fireD at h ⊢
  by_cases h1 : t < 0 ∨ (n.net.trans.length : Int) ≤ t
  · rw [if_pos h1] at h; cases h
  rw [if_neg h1] at h ⊢
  by_cases h2 : (fireB n.net s.marks t).2 = 12
  · rw [if_pos h2] at h; cases h
  rw [if_neg h2] at h ⊢
  by_cases h3 : guardB n.vars s.vals ((n.guards[t.toNat]?).getD (.mk 0 noV emptyS [])) = false
  · rw [if_pos h3] at h; cases h
  rw [if_neg h3] at h ⊢
  cases hw : wrsV n.vars s.vals ((n.writes[t.toNat]?).getD []) s.vals with
  | none => rw [hw] at h; cases h
  | some vs =>
    rw [hw] at h
    dsimp only at h ⊢
    by_cases h4 : (fireB n.net s.marks t).2 ≠ 0
    · rw [if_pos h4] at h; exact absurd h h4
    rw [if_neg h4]
    exact ⟨by omega, by omega, by omega, by simpa using h3, vs, rfl, rfl⟩
theorem fire_state {n : DNet} {s : St} {t : Int} (hv : dvalidB n = true) (hs : stateB n s = true) (h : (fireD n s t).2 = 0) : stateB n (fireD n s t).1 = true := by
  obtain ⟨s1, s2, s3⟩ := state_parts hs
  obtain ⟨_, _, f3, _, vs, hw, e⟩ := fire_parts h
  rw [e]
  have hwr : n.writes.all (wrsB n.vars (-1)) = true := by
    unfold dvalidB at hv
    simp only [Bool.and_eq_true] at hv
    exact hv.2
  obtain ⟨a1, a2, a3, a4⟩ := asg_parts s3
  obtain ⟨o1, o2, o3⟩ := wrsV_ok (asg_typed s3) _ (-1) s.vals vs (by omega) (writes_at hwr t.toNat) a3 a2 a4 hw
  exact state_mk s1 (fire_mark s1 s2 f3) (asg_mk a1 o2 o1 o3)
theorem key_state {n : DNet} {s s' : St} (h : stateB n s = true) (h' : stateB n s' = true) (hk : keyS s = keyS s') : s = s' := by
  obtain ⟨_, m, a⟩ := state_parts h
  obtain ⟨_, m', a'⟩ := state_parts h'
  obtain ⟨_, a2, a3, _⟩ := asg_parts a
  obtain ⟨_, b2, b3, _⟩ := asg_parts a'
  refine keyS_inj ?_ (by omega) a2 b2 hk
  have e := (markOk (n := n.net) m).1
  have e' := (markOk (n := n.net) m').1
  omega
end Go.Proofs.YtlmenhjlgmejkaaGreatDoor

namespace Go.Proofs.YtlmenhjlgmejkaaGreatDoor
open Go.RowKit
theorem idxS_some {l : List St} {s : St} {k : Nat} (h : idxS l s = some k) : l[k]? = some s ∧ k < l.length := by
  unfold idxS at h
  rw [List.findIdx?_eq_some_iff_getElem] at h
  obtain ⟨h1, h2, _⟩ := h
  refine ⟨?_, h1⟩
  rw [List.getElem?_eq_getElem h1]
  simpa using h2
theorem idxS_none {l : List St} {s : St} (h : idxS l s = none) : s ∉ l := by
  unfold idxS at h
  rw [List.findIdx?_eq_none_iff] at h
  intro hs
  have := h s hs
  simp at this
structure DExt (p q : Sp) : Prop where
  st : p.states <+: q.states
  mv : p.moves <+: q.moves
  full : q.full = true → p.full = true
theorem DExt.refl (p : Sp) : DExt p p := ⟨List.prefix_refl _, List.prefix_refl _, fun h => h⟩
theorem DExt.trans {p q r : Sp} (h : DExt p q) (k : DExt q r) : DExt p r := ⟨h.st.trans k.st, h.mv.trans k.mv, fun e => h.full (k.full e)⟩
theorem pre_get {α : Type} {l m : List α} (h : l <+: m) {i : Nat} {x : α} (hx : l[i]? = some x) : m[i]? = some x := by
  obtain ⟨t, rfl⟩ := h
  have hi : i < l.length := by
    rcases Nat.lt_or_ge i l.length with h' | h'
    · exact h'
    · rw [List.getElem?_eq_none h'] at hx; cases hx
  rw [List.getElem?_append_left hi]; exact hx
theorem pre_back {α : Type} {l m : List α} (h : l <+: m) {i : Nat} {x : α} (hi : i < l.length) (hx : m[i]? = some x) : l[i]? = some x := by
  obtain ⟨t, rfl⟩ := h
  rw [List.getElem?_append_left hi] at hx; exact hx
theorem lt_of_get {α : Type} {l : List α} {i : Nat} {x : α} (hx : l[i]? = some x) : i < l.length := by
  rcases Nat.lt_or_ge i l.length with h' | h'
  · exact h'
  · rw [List.getElem?_eq_none h'] at hx; cases hx
def MvOk (n : DNet) (l : List St) (m : Mv) : Prop := ∃ s s', l[m.src]? = some s ∧ l[m.dst]? = some s' ∧ fireD n s (m.sym : Int) = (s', 0)
structure DInv (n : DNet) (s0 : St) (most : Nat) (p : Sp) : Prop where
  ok : ∀ s ∈ p.states, stateB n s = true
  head : p.states[0]? = some s0
  le : p.states.length ≤ most
  mvl : p.moves.length ≤ 20000
  mv : ∀ m ∈ p.moves, MvOk n p.states m
  nodup : p.states.Nodup
  met : ∀ k, 0 < k → k < p.states.length → ∃ m, byM p.moves k = some m
theorem byM_some {mv : List Mv} {k : Nat} {m : Mv} (h : byM mv k = some m) : m ∈ mv ∧ m.dst = k ∧ m.src < k := by
  unfold byM at h
  have h1 := List.mem_of_find?_eq_some h
  have h2 := List.find?_some h
  simp only [Bool.and_eq_true, decide_eq_true_eq] at h2
  exact ⟨h1, h2.1, by omega⟩
theorem byM_app {a b : List Mv} {k : Nat} {m : Mv} (h : byM a k = some m) : byM (a ++ b) k = some m := by
  unfold byM at h ⊢
  rw [List.find?_append, h]; rfl
theorem byM_snoc {a : List Mv} {k : Nat} {m : Mv} (h1 : m.dst = k) (h2 : m.src < k) : ∃ m', byM (a ++ [m]) k = some m' := by
  cases h : byM a k with
  | some m' => exact ⟨m', byM_app h⟩
  | none =>
    unfold byM at h ⊢
    rw [List.find?_append, h]
    exact ⟨m, by simp [h1, h2]⟩
theorem MvOk.ext {n : DNet} {l l' : List St} {m : Mv} (h : MvOk n l m) (hp : l <+: l') : MvOk n l' m := by
  obtain ⟨s, s', h1, h2, h3⟩ := h
  exact ⟨s, s', pre_get hp h1, pre_get hp h2, h3⟩
theorem fire_eta {n : DNet} {s : St} {t : Int} (h : (fireD n s t).2 = 0) : fireD n s t = ((fireD n s t).1, 0) := by rw [← h]
section
variable {n : DNet} {s0 : St} {most i t : Nat} {s : St} {p q : Sp}
theorem exT_inv (hv : dvalidB n = true) (hp : DInv n s0 most p) (hi : p.states[i]? = some s) (h : exT n most i s t p = some q) : DInv n s0 most q ∧ DExt p q := by
  unfold exT at h
  split at h
  · injection h with h
    subst h
    exact ⟨⟨hp.ok, hp.head, hp.le, hp.mvl, hp.mv, hp.nodup, hp.met⟩, List.prefix_refl _, List.prefix_refl _, fun e => by simp only [Bool.and_eq_true] at e; exact e.1⟩
  · rename_i hc
    have hc : (fireD n s (t : Int)).2 = 0 := by simpa using hc
    have he := fire_eta hc
    split at h
    · rename_i k hk
      split at h
      · rename_i hl
        injection h with h
        subst h
        obtain ⟨k1, k2⟩ := idxS_some hk
        refine ⟨⟨hp.ok, hp.head, hp.le, by simp; omega, ?_, hp.nodup, fun j h1 h2 => ?_⟩, List.prefix_refl _, List.prefix_append _ _, fun e => e⟩
        · intro m hm
          rcases List.mem_append.1 hm with hm | hm
          · exact hp.mv m hm
          · rw [List.mem_singleton] at hm
            subst hm
            exact ⟨s, _, hi, k1, he⟩
        · obtain ⟨m, hm⟩ := hp.met j h1 h2
          exact ⟨m, byM_app hm⟩
      · cases h
    · rename_i hk
      split at h
      · rename_i hlt
        split at h
        · rename_i hl
          injection h with h
          subst h
          have hn := idxS_none hk
          have hs : stateB n s = true := hp.ok s (List.mem_of_getElem? hi)
          have hil := lt_of_get hi
          refine ⟨⟨?_, ?_, ?_, ?_, ?_, ?_, ?_⟩, List.prefix_append _ _, List.prefix_append _ _, fun e => e⟩
          · intro x hx
            rcases List.mem_append.1 hx with hx | hx
            · exact hp.ok x hx
            · rw [List.mem_singleton] at hx; subst hx; exact fire_state hv hs hc
          · exact pre_get (List.prefix_append _ _) hp.head
          · simp; omega
          · simp; omega
          · intro m hm
            rcases List.mem_append.1 hm with hm | hm
            · exact (hp.mv m hm).ext (List.prefix_append _ _)
            · rw [List.mem_singleton] at hm
              subst hm
              exact ⟨s, _, pre_get (List.prefix_append _ _) hi, by simp, he⟩
          · rw [List.nodup_append]
            refine ⟨hp.nodup, by simp, fun a ha b hb => ?_⟩
            rw [List.mem_singleton] at hb
            subst hb
            rintro rfl
            exact hn ha
          · intro j h1 h2
            dsimp only at h2 ⊢
            rw [List.length_append, List.length_singleton] at h2
            rcases Nat.lt_or_ge j p.states.length with h3 | h3
            · obtain ⟨m, hm⟩ := hp.met j h1 h3
              exact ⟨m, byM_app hm⟩
            · obtain rfl : j = p.states.length := by omega
              exact byM_snoc rfl hil
        · cases h
      · injection h with h
        subst h
        exact ⟨⟨hp.ok, hp.head, hp.le, hp.mvl, hp.mv, hp.nodup, hp.met⟩, List.prefix_refl _, List.prefix_refl _, fun e => by cases e⟩
theorem exRow_inv (hv : dvalidB n = true) : ∀ (f t : Nat) (p : Sp), DInv n s0 most p → p.states[i]? = some s → exRow n most i s f t p = some q → DInv n s0 most q ∧ DExt p q := by
  intro f
  induction f with
  | zero => intro t p hp _ h; injection h with h; subst h; exact ⟨hp, DExt.refl _⟩
  | succ f ih =>
    intro t p hp hi h
    rw [exRow, Option.bind_eq_some_iff] at h
    obtain ⟨r, h1, h2⟩ := h
    obtain ⟨a, b⟩ := exT_inv hv hp hi h1
    obtain ⟨c, d⟩ := ih (t + 1) r a (pre_get b.st hi) h2
    exact ⟨c, b.trans d⟩
theorem exAll_inv (hv : dvalidB n = true) : ∀ (f i : Nat) (p : Sp), DInv n s0 most p → exAll n most f i p = some q → DInv n s0 most q ∧ DExt p q := by
  intro f
  induction f with
  | zero => intro i p hp h; injection h with h; subst h; exact ⟨hp, DExt.refl _⟩
  | succ f ih =>
    intro i p hp h
    rw [exAll] at h
    split at h
    · injection h with h; subst h; exact ⟨hp, DExt.refl _⟩
    · rename_i s hs
      rw [Option.bind_eq_some_iff] at h
      obtain ⟨r, h1, h2⟩ := h
      obtain ⟨a, b⟩ := exRow_inv hv _ 0 p hp hs h1
      obtain ⟨c, d⟩ := ih (i + 1) r a h2
      exact ⟨c, b.trans d⟩
theorem exFrom_inv (hv : dvalidB n = true) (hs : stateB n s0 = true) (hm : 1 ≤ most) (h : exFrom n s0 most = some q) : DInv n s0 most q := by
  refine (exAll_inv hv _ _ _ ⟨?_, rfl, hm, by simp, fun m hm => ?_, by simp, fun k h1 h2 => ?_⟩ h).1
  · intro x hx; rw [List.mem_singleton] at hx; subst hx; exact hs
  · simp at hm
  · simp at h2; omega
def DShut (n : DNet) (p : Sp) (i t : Nat) : Prop := ∀ j u s, (j < i ∨ (j = i ∧ u < t)) → u < n.net.trans.length → p.states[j]? = some s → p.full = true →
  (fireD n s (u : Int)).2 ≠ 5 ∧ ((fireD n s (u : Int)).2 = 0 → ∃ k, (⟨j, k, u⟩ : Mv) ∈ p.moves ∧ p.states[k]? = some (fireD n s (u : Int)).1)
theorem DShut.ext (h : DShut n p i t) (hi : i < p.states.length) (he : DExt p q) : DShut n q i t := by
  intro j u s hj hu hs hf
  have hjl : j < p.states.length := by omega
  obtain ⟨a, b⟩ := h j u s hj hu (pre_back he.st hjl hs) (he.full hf)
  refine ⟨a, fun e => ?_⟩
  obtain ⟨k, k1, k2⟩ := b e
  exact ⟨k, he.mv.subset k1, pre_get he.st k2⟩
theorem DShut.next (h : DShut n p i n.net.trans.length) : DShut n p (i + 1) 0 := by
  intro j u s hj hu hs hf
  exact h j u s (by omega) hu hs hf
end
section
variable {mv : List Mv}
theorem canStep_len (c : List Bool) : (canStep mv c).length = c.length := by unfold canStep; simp
theorem canStep_get (c : List Bool) {i : Nat} (hi : i < c.length) : (canStep mv c).getD i false = (c.getD i false || mv.any fun m => decide (m.src = i) && c.getD m.dst false) := by
  unfold canStep
  rw [List.getD_eq_getElem?_getD, List.getElem?_map, List.getElem?_range hi]; rfl
theorem canIter_len : ∀ (k : Nat) (c : List Bool), (canIter mv k c).length = c.length
  | 0, c => rfl
  | k + 1, c => by rw [canIter, canIter_len k, canStep_len]
theorem count_lt : ∀ (c d : List Bool), c.length = d.length → (∀ i, c.getD i false = true → d.getD i false = true) → c ≠ d → c.count true < d.count true
  | [], [], _, _, h => absurd rfl h
  | [], _ :: _, h, _, _ => by simp at h
  | _ :: _, [], h, _, _ => by simp at h
  | a :: c, b :: d, hl, hle, hne => by
    have hle' : ∀ i, c.getD i false = true → d.getD i false = true := fun i hi => by simpa using hle (i + 1) (by simpa using hi)
    have h0 : a = true → b = true := fun e => by simpa using hle 0 (by simpa using e)
    have hl' : c.length = d.length := by simpa using hl
    by_cases hcd : c = d
    · subst hcd
      cases a <;> cases b
      · exact absurd rfl hne
      · simp
      · simp at h0
      · exact absurd rfl hne
    · have := count_lt c d hl' hle' hcd
      cases a <;> cases b
      · simpa using this
      · simp; omega
      · simp at h0
      · simpa using this
theorem canIter_fix {c : List Bool} (h : canStep mv c = c) : ∀ k, canIter mv k c = c
  | 0 => rfl
  | k + 1 => by rw [canIter, h, canIter_fix h k]
theorem canStep_ge (c : List Bool) : ∀ i, c.getD i false = true → (canStep mv c).getD i false = true := by
  intro i hi
  have hl : i < c.length := by
    rcases Nat.lt_or_ge i c.length with h' | h'
    · exact h'
    · rw [List.getD_eq_getElem?_getD, List.getElem?_eq_none h'] at hi; cases hi
  rw [canStep_get c hl, hi]; rfl
theorem canIter_cnt : ∀ (k : Nat) (c : List Bool), canStep mv (canIter mv k c) = canIter mv k c ∨ c.count true + k ≤ (canIter mv k c).count true
  | 0, c => .inr (by rw [canIter]; omega)
  | k + 1, c => by
    by_cases h : canStep mv c = c
    · rw [canIter_fix h]; exact .inl h
    · have h1 := count_lt c (canStep mv c) (canStep_len c).symm (canStep_ge c) (fun e => h e.symm)
      rw [canIter]
      rcases canIter_cnt k (canStep mv c) with h2 | h2
      · exact .inl h2
      · exact .inr (by omega)
theorem canIter_done (c : List Bool) : canStep mv (canIter mv c.length c) = canIter mv c.length c := by
  rcases canIter_cnt (mv := mv) c.length c with h | h
  · exact h
  · have hle : (canIter mv c.length c).count true ≤ c.length := by
      have := List.count_le_length (a := true) (l := canIter mv c.length c)
      rwa [canIter_len] at this
    have h0 : c.count true = 0 := by omega
    have hc : c = List.replicate c.length false := by
      rw [List.eq_replicate_iff]
      refine ⟨rfl, fun b hb => ?_⟩
      cases b
      · rfl
      · exact absurd hb (List.count_eq_zero.1 h0)
    have hf : ∀ i, c.getD i false = false := fun i => by
      rw [hc, List.getD_eq_getElem?_getD, List.getElem?_replicate]
      split <;> rfl
    have hs : canStep mv c = c := by
      refine List.ext_getElem? fun i => ?_
      rcases Nat.lt_or_ge i c.length with hi | hi
      · have h1 := canStep_get (mv := mv) c hi
        have h2 : (mv.any fun m => decide (m.src = i) && c.getD m.dst false) = false := by
          rw [List.any_eq_false]
          intro m _
          rw [hf]; simp
        rw [h2, hf] at h1
        have hi' : i < (canStep mv c).length := by rw [canStep_len]; exact hi
        have h3 := hf i
        rw [List.getD_eq_getElem?_getD, List.getElem?_eq_getElem hi'] at h1
        rw [List.getD_eq_getElem?_getD, List.getElem?_eq_getElem hi] at h3
        rw [List.getElem?_eq_getElem hi, List.getElem?_eq_getElem hi']
        simp only [Option.getD_some, Bool.or_false] at h1 h3
        rw [h1, h3]
      · rw [List.getElem?_eq_none hi, List.getElem?_eq_none (by rw [canStep_len]; exact hi)]
    rw [canIter_fix hs]
    exact hs
inductive CanR (mv : List Mv) (fin : Nat → Prop) : Nat → Prop where
  | here {i : Nat} (h : fin i) : CanR mv fin i
  | go {m : Mv} (hm : m ∈ mv) (h : CanR mv fin m.dst) : CanR mv fin m.src
theorem canIter_sound {fin : Nat → Prop} : ∀ (k : Nat) (c : List Bool), (∀ i, c.getD i false = true → CanR mv fin i) → ∀ i, (canIter mv k c).getD i false = true → CanR mv fin i
  | 0, c, h, i, hi => h i hi
  | k + 1, c, h, i, hi => by
    rw [canIter] at hi
    refine canIter_sound k (canStep mv c) (fun j hj => ?_) i hi
    have hl : j < c.length := by
      rcases Nat.lt_or_ge j c.length with h' | h'
      · exact h'
      · rw [List.getD_eq_getElem?_getD, List.getElem?_eq_none (by rw [canStep_len]; exact h')] at hj; cases hj
    rw [canStep_get c hl, Bool.or_eq_true] at hj
    rcases hj with hj | hj
    · exact h j hj
    · rw [List.any_eq_true] at hj
      obtain ⟨m, hm, hj⟩ := hj
      simp only [Bool.and_eq_true, decide_eq_true_eq] at hj
      obtain ⟨rfl, hj⟩ := hj
      exact .go hm (h _ hj)
theorem canIter_ge : ∀ (k : Nat) (c : List Bool) (i : Nat), c.getD i false = true → (canIter mv k c).getD i false = true
  | 0, _, _, h => h
  | k + 1, c, i, h => canIter_ge k (canStep mv c) i (canStep_ge c i h)
theorem can_iff {fin : Nat → Prop} {c : List Bool} (hc : ∀ i, i < c.length → (c.getD i false = true ↔ fin i)) (hf : ∀ i, fin i → i < c.length) (hm : ∀ m ∈ mv, m.src < c.length) (i : Nat) :
    (canIter mv c.length c).getD i false = true ↔ CanR mv fin i := by
  constructor
  · refine canIter_sound _ _ (fun j hj => ?_) i
    have hl : j < c.length := by
      rcases Nat.lt_or_ge j c.length with h' | h'
      · exact h'
      · rw [List.getD_eq_getElem?_getD, List.getElem?_eq_none h'] at hj; cases hj
    exact .here ((hc j hl).1 hj)
  · intro h
    induction h with
    | here h => exact canIter_ge _ _ _ ((hc _ (hf _ h)).2 h)
    | @go m hm' _ ih =>
      have hd := canIter_done (mv := mv) c
      have hl : m.src < (canIter mv c.length c).length := by rw [canIter_len]; exact hm m hm'
      have := canStep_get (mv := mv) (canIter mv c.length c) hl
      rw [hd] at this
      rw [this, Bool.or_eq_true]
      refine .inr ?_
      rw [List.any_eq_true]
      exact ⟨m, hm', by rw [ih]; simp⟩
end
def CanF (n : DNet) (p : Sp) : Nat → Prop := CanR p.moves fun j => ∃ s, p.states[j]? = some s ∧ finalM n s.marks = true
theorem good_iff {n : DNet} {p : Sp} (hm : ∀ m ∈ p.moves, m.src < p.states.length) (i : Nat) : (goodL n p).getD i false = true ↔ CanF n p i := by
  have hl : (p.states.map fun s => finalM n s.marks).length = p.states.length := by simp
  have := can_iff (mv := p.moves) (c := p.states.map fun s => finalM n s.marks) (fin := fun j => ∃ s, p.states[j]? = some s ∧ finalM n s.marks = true) (fun j hj => by
    rw [hl] at hj
    rw [List.getD_eq_getElem?_getD, List.getElem?_map, List.getElem?_eq_getElem hj]
    simp) (fun j ⟨s, h, _⟩ => by rw [hl]; exact lt_of_get h) (fun m h => by rw [hl]; exact hm m h) i
  rw [hl] at this
  exact this
theorem goodL_len (n : DNet) (p : Sp) : (goodL n p).length = p.states.length := by unfold goodL; rw [canIter_len]; simp
end Go.Proofs.YtlmenhjlgmejkaaGreatDoor
