/- petri.Enabled, petri.Fire and the reference's Enabled. -/
import Derived.Test.YtphdafhidhfmnaaDoorFireRef
namespace Go.Proofs.YtphdafhidhfmnaaDoor
open Go.RowKit

def canAt (n : Net) (m : List Int) (i : Nat) : Bool := match n.trans[i]? with | some t => canB t.ins m | none => false
def enTo (n : Net) (m : List Int) (k : Nat) : List Int := ((List.range k).filter (canAt n m)).map fun (i : Nat) => (i : Int)
def enB (n : Net) (m : List Int) : List Int := enTo n m n.trans.length
def enE (n : Net) (m : List Int) : List Int × Int := if (validB n && markingB n.places m) = false then ([], 1) else (enB n m, 0)
theorem enTo_yes {n : Net} {m : List Int} {k : Nat} {t : Tr} (ht : n.trans[k]? = some t) (h : canB t.ins m = true) : enTo n m (k + 1) = enTo n m k ++ [(k : Int)] := by
  unfold enTo
  rw [List.range_succ, List.filter_append, List.map_append]
  have : canAt n m k = true := by unfold canAt; rw [ht]; exact h
  simp [this]
theorem enTo_no {n : Net} {m : List Int} {k : Nat} {t : Tr} (ht : n.trans[k]? = some t) (h : canB t.ins m = false) : enTo n m (k + 1) = enTo n m k := by
  unfold enTo
  rw [List.range_succ, List.filter_append, List.map_append]
  have : canAt n m k = false := by unfold canAt; rw [ht]; exact h
  simp [this]
theorem enTo_len (n : Net) (m : List Int) (k : Nat) : (enTo n m k).length ≤ k := by
  unfold enTo
  rw [List.length_map]
  exact Nat.le_trans (List.length_filter_le _ _) (by simp)
theorem enTo_fit (n : Net) (m : List Int) (k : Nat) (hk : k ≤ 100) : ∀ z ∈ enTo n m k, Fit z := by
  intro z hz
  unfold enTo at hz
  obtain ⟨i, hi, rfl⟩ := List.mem_map.1 hz
  have := List.mem_range.1 (List.mem_filter.1 hi).1
  unfold Fit; omega

set_option maxHeartbeats 1000000 in
theorem fireX_any (n : Net) (v mv : Value) (m : List Int) (t : Int) (w : World) (h : IsNet (Lt w.heap.size) w v n) (hm : SlI (Lt w.heap.size) w mv m) :
    Calls Tryd.prog 26 #[v, mv, .int .i64 t] w (RetIE (fireE n m t).1 (fireE n m t).2 w) := by
  have h0 := h
  obtain ⟨tv, rfl, hp, hs, hkk, ht⟩ := h
  obtain ⟨A, c, rfl, h1, h2, ht⟩ := ht.open_
  go_enter Tryd.func26, Tryd.ntmps26
  go_wp2_with fail
  have hb := bone w (Obj.cells #[Value.int IntKind.i64 n.places, Value.slice A n.trans.length c, Value.int IntKind.i64 n.source, Value.int IntKind.i64 n.sink] 24)
  refine (marking_any n _ _ m _ (h0.now hb) (hm.now hb)).mono ?_
  rintro e w1 ⟨rfl, hb1⟩
  have hbw := bthen hb hb1
  have hB1 := (Blk.new w 24 #[.int .i64 n.places, .slice A n.trans.length c, .int .i64 n.source, .int .i64 n.sink]).now hb1
  obtain ⟨q0, q1, q2, q3⟩ := hB1.c4
  generalize hq : (validB n && markingB n.places m) = q
  have HQ := Lib.hid hq
  clear hq
  cases q
  · have HE : Hid (fireE n m t = ([], 1)) := by show fireE n m t = _; unfold fireE; rw [HQ.out]; rfl
    go_wp2_with fail
    go_ret2
    rw [HE.out]
    exact ⟨_, rfl, Sl.none_, hbw⟩
  have HE : Hid (fireE n m t = fireB n m t) := by show fireE n m t = _; unfold fireE; rw [HQ.out]; rfl
  obtain ⟨HV, HM⟩ := (Bool.and_eq_true _ _).mp HQ.out
  have HV := Lib.hid HV
  have HM := Lib.hid HM
  go_wp2_with fail
  refine (fire_any n _ _ m t _ (h0.now hbw) (hm.now hbw) HV.out HM.out).mono ?_
  rintro e w2 ⟨v', rfl, hsl, hb2⟩
  go_wp2_with fail
  go_ret2
  rw [HE.out]
  exact ⟨_, rfl, hsl, bthen hbw hb2⟩

set_option maxHeartbeats 1000000 in
theorem enabledX_any (n : Net) (v mv : Value) (m : List Int) (w : World) (h : IsNet (Lt w.heap.size) w v n) (hm : SlI (Lt w.heap.size) w mv m) :
    Calls Tryd.prog 25 #[v, mv] w (RetIE (enE n m).1 (enE n m).2 w) := by
  have h0 := h
  obtain ⟨tv, rfl, hp, hs, hkk, ht⟩ := h
  obtain ⟨A, c, rfl, h1, h2, ht⟩ := ht.open_
  go_enter Tryd.func25, Tryd.ntmps25
  go_wp2_with fail
  have hb := bone w (Obj.cells #[Value.int IntKind.i64 n.places, Value.slice A n.trans.length c, Value.int IntKind.i64 n.source, Value.int IntKind.i64 n.sink] 24)
  refine (marking_any n _ _ m _ (h0.now hb) (hm.now hb)).mono ?_
  rintro e w1 ⟨rfl, hb1⟩
  have hbw := bthen hb hb1
  have hB1 := (Blk.new w 24 #[.int .i64 n.places, .slice A n.trans.length c, .int .i64 n.source, .int .i64 n.sink]).now hb1
  obtain ⟨q0, q1, q2, q3⟩ := hB1.c4
  generalize hq : (validB n && markingB n.places m) = q
  have HQ := Lib.hid hq
  clear hq
  cases q
  · have HE : Hid (enE n m = ([], 1)) := by show enE n m = _; unfold enE; rw [HQ.out]; rfl
    go_wp2_with fail
    go_ret2
    rw [HE.out]
    exact ⟨_, rfl, Sl.none_, hbw⟩
  have HE : Hid (enE n m = (enB n m, 0)) := by show enE n m = _; unfold enE; rw [HQ.out]; rfl
  obtain ⟨HV, HM⟩ := (Bool.and_eq_true _ _).mp HQ.out
  obtain ⟨v1, v2, v3, v4⟩ := validOk HV
  obtain ⟨hml, hmw⟩ := markOk HM
  have HTO := Lib.hid v4
  have HIN : Hid (∀ t ∈ n.trans, Inside t.ins m) := fun t htt p hp => by have := places_mem (trPlaces (v4 t htt)).1 p hp; omega
  have HNN : Hid (NonNeg m) := fun z hz => (hmw z hz).1
  have HM := Lib.hid HM
  clear v4 hmw HV
  have hlt1 := hB1.lt
  go_wp2_with fail
  clear q0 q1 q2 q3
  go_loopw [6, 16] (fun ov i wr => ∃ k : Nat, k ≤ n.trans.length ∧ i = .int .i64 k ∧ wr.ownsRow (w.heap.size + 1) 3 1 ov (enTo n m k).length ((enTo n m k).map (Value.int .i64)) ∧ Below w.heap.size w wr ∧ w.heap.size < wr.heap.size) (fun _ i _ => n.trans.length - (intOf i).toNat)
  case atStart => exact ⟨0, Nat.zero_le _, rfl, World.ownsRow_nil _ _ _ _, hbw, hlt1⟩
  case round =>
    obtain ⟨k, hk, rfl, hown, hbr, hltr⟩ := hrel
    by_cases hlt : k < n.trans.length
    · obtain ⟨b, o, t, iv, ov', rfl, hD, hx, hlb, hti, hto, d0, d1, d2⟩ := (ht.now hbr).at_ hlt
      have HX := Lib.hid hx
      have hen := enTo_len n m k
      clear hx
      have hbt := bone wr (.cells #[.string t.label, iv, ov'] 64)
      obtain ⟨Ai, ci, rfl, i1, i2, hti⟩ := hti.open_
      obtain ⟨Ao, co, rfl, o1, o2, hto⟩ := hto.open_
      go_wp2_with fail
      refine (enabled_any t _ _ m _ ⟨_, _, rfl, hlb, hti.now hbt, hto.now hbt⟩ ((hm.now hbr).now hbt) (HIN.out t (List.mem_of_getElem? HX.out)) HNN.out).mono ?_
      rintro e w2 ⟨rfl, hb2⟩
      have hb3 := bthen (bthen hbr hbt) hb2
      have hown2 := own_now (own_now hown hbt) hb2
      have hlt2 : w.heap.size < w2.heap.size := Nat.lt_of_lt_of_le hltr (Nat.le_trans hbt.size hb2.size)
      generalize hq : canB t.ins m = q
      have HQ := Lib.hid hq
      clear hq hbt hb2 hown
      cases q
      · have HS := Lib.hid (enTo_no (m := m) HX.out HQ.out)
        go_wp2_with fail
        go_roundw
        case rel => exact ⟨k + 1, by omega, by go_num, by rw [HS.out]; exact hown2, hb3, hlt2⟩
        case measure => simp [intOf]; omega
      · have HS := Lib.hid (enTo_yes (m := m) HX.out HQ.out)
        go_wp2_with (at_builtin; refine wpList_push appInts rfl (.tmp 24) (.tmp 26) rfl w2 [.int .i64 (k : Int)] rfl (by simp [Value.oneCell']) _ (enTo n m k).length ((enTo n m k).map (Value.int .i64)) rfl hown2 rfl (by omega) (by omega) ?_; intro v' w' hown' hgr hat)
        have hbg : Below (w.heap.size + 1) w2 w' := below_of_grown hgr (by omega) (fun g hg => (hown2.lt g hg).1)
        go_roundw
        case rel =>
          refine ⟨k + 1, by omega, by go_num, ?_, hb3.trans (hbg.mono (by omega)), Nat.lt_of_lt_of_le hlt2 hbg.size⟩
          rw [HS.out]; simpa using hown'
        case measure => simp [intOf]; omega
    · obtain rfl : k = n.trans.length := by omega
      go_wp2_with fail
      go_ret2
      rw [HE.out]
      exact ⟨_, rfl, SlI.of_own hown (enTo_fit n m _ (by omega)), hbr⟩

set_option maxHeartbeats 1000000 in
theorem enabled_ref (n : Net) (v mv : Value) (m : List Int) (w : World) (h : IsNet (Lt w.heap.size) w v n) (hm : SlI (Lt w.heap.size) w mv m) (hV : validB n = true) (hM : markingB n.places m = true) :
    Calls Tryd.prog 28 #[v, mv] w fun e w' => ∃ v', e = .returned v' ∧ SlI (Lt w'.heap.size) w' v' (enB n m) ∧ Below w.heap.size w w' := by
  have h0 := h
  obtain ⟨tv, rfl, hp, hs, hkk, ht⟩ := h
  obtain ⟨A, c, rfl, h1, h2, ht⟩ := ht.open_
  obtain ⟨v1, v2, v3, v4⟩ := validOk hV
  obtain ⟨hml, hmw⟩ := markOk hM
  have HIN : Hid (∀ t ∈ n.trans, Inside t.ins m) := fun t htt p hp => by have := places_mem (trPlaces (v4 t htt)).1 p hp; omega
  clear v4 hmw hV hM
  go_enter Tryd.func28, Tryd.ntmps28
  go_wp2_with fail
  have hb := bone w (Obj.cells #[Value.int IntKind.i64 n.places, Value.slice A n.trans.length c, Value.int IntKind.i64 n.source, Value.int IntKind.i64 n.sink] 24)
  have hB := Blk.new w 24 #[.int .i64 n.places, .slice A n.trans.length c, .int .i64 n.source, .int .i64 n.sink]
  go_loopw [5, 6] (fun ov i wr => ∃ k : Nat, k ≤ n.trans.length ∧ i = .int .i64 k ∧ wr.ownsRow (w.heap.size + 1) 3 1 ov (enTo n m k).length ((enTo n m k).map (Value.int .i64)) ∧ Below w.heap.size w wr ∧ Blk wr w.heap.size 24 #[.int .i64 n.places, .slice A n.trans.length c, .int .i64 n.source, .int .i64 n.sink]) (fun _ i _ => n.trans.length - (intOf i).toNat)
  case atStart => exact ⟨0, Nat.zero_le _, rfl, World.ownsRow_nil _ _ _ _, hb, hB⟩
  case round =>
    obtain ⟨k, hk, rfl, hown, hbr, hBr⟩ := hrel
    have hltr := hBr.lt
    obtain ⟨q0, q1, q2, q3⟩ := hBr.c4
    by_cases hlt : k < n.trans.length
    · obtain ⟨b, o, t, iv, ov', rfl, hD, hx, hlb, hti, hto, d0, d1, d2⟩ := (ht.now hbr).at_ hlt
      have HX := Lib.hid hx
      have hen := enTo_len n m k
      clear hx
      go_wp2_with fail
      refine (can_ref n _ _ m k t _ (h0.now hbr) (hm.now hbr) HX.out (HIN.out t (List.mem_of_getElem? HX.out))).mono ?_
      rintro e w2 ⟨rfl, hb2⟩
      have hb3 := bthen hbr hb2
      have hown2 := own_now hown hb2
      have hB2 := hBr.now hb2
      have hlt2 := hB2.lt
      clear q0 q1 q2 q3
      generalize hq : canB t.ins m = q
      have HQ := Lib.hid hq
      clear hq hb2 hown
      cases q
      · have HS := Lib.hid (enTo_no (m := m) HX.out HQ.out)
        go_wp2_with fail
        go_roundw
        case rel => exact ⟨k + 1, by omega, by go_num, by rw [HS.out]; exact hown2, hb3, hB2⟩
        case measure => simp [intOf]; omega
      · have HS := Lib.hid (enTo_yes (m := m) HX.out HQ.out)
        go_wp2_with (at_builtin; refine wpList_push appInts rfl (.tmp 18) (.tmp 20) rfl w2 [.int .i64 (k : Int)] rfl (by simp [Value.oneCell']) _ (enTo n m k).length ((enTo n m k).map (Value.int .i64)) rfl hown2 rfl (by omega) (by omega) ?_; intro v' w' hown' hgr hat)
        have hbg : Below (w.heap.size + 1) w2 w' := below_of_grown hgr (by omega) (fun g hg => (hown2.lt g hg).1)
        go_roundw
        case rel =>
          refine ⟨k + 1, by omega, by go_num, ?_, hb3.trans (hbg.mono (by omega)), hB2.below hbg (by omega)⟩
          rw [HS.out]; simpa using hown'
        case measure => simp [intOf]; omega
    · obtain rfl : k = n.trans.length := by omega
      go_wp2_with fail
      go_ret
      exact ⟨_, rfl, SlI.of_own hown (enTo_fit n m _ (by omega)), hbr⟩
end Go.Proofs.YtphdafhidhfmnaaDoor
