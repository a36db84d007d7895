/- Valid nets: petri.Valid and the reference's, both of one plain function. -/
import Derived.Test.YtlkkfkkhllijbaaDoorPlaces
namespace Go.Proofs.YtlkkfkkhllijbaaDoor
open Go.RowKit

def labelOk (s : ByteArray) : Bool := decide (s.size = 0) || isNameB s
def trOk (P : Int) (t : Tr) : Bool := labelOk t.label && placesB P t.ins && placesB P t.outs
def inside (P x : Int) : Bool := decide (0 ≤ x) && decide (x < P)
def validB (n : Net) : Bool := decide (1 ≤ n.places) && decide (n.places ≤ 40) && decide (n.trans.length ≤ 60) && n.trans.all (trOk n.places) && inside n.places n.source && inside n.places n.sink

theorem size_toList (s : ByteArray) : s.toList = [] ↔ s.size = 0 := by
  rw [ByteArray.toList_eq, ← List.length_eq_zero_iff, Array.length_toList]; rfl
theorem labelOk_empty {s : ByteArray} (h : s.toList = []) : labelOk s = true := by
  rw [size_toList] at h; unfold labelOk; simp [h]
theorem labelOk_full {s : ByteArray} (h : ¬ s.toList = []) : labelOk s = isNameB s := by
  rw [size_toList] at h; unfold labelOk; simp [h]
theorem places_single (P x : Int) : placesB P [x] = inside P x := by
  unfold placesB inside placeAt; simp [List.range_succ]

theorem valid_bad_tr {n : Net} {k : Nat} {t : Tr} (hx : n.trans[k]? = some t) (h : trOk n.places t = false) : validB n = false := by
  have : n.trans.all (trOk n.places) = false := by rw [List.all_eq_false]; exact ⟨t, List.mem_of_getElem? hx, by simp [h]⟩
  unfold validB; simp [this]
theorem all_ok {n : Net} (h : ∀ j t, j < n.trans.length → n.trans[j]? = some t → trOk n.places t = true) : n.trans.all (trOk n.places) = true := by
  rw [List.all_eq_true]
  intro t ht
  obtain ⟨q, hq, rfl⟩ := List.mem_iff_getElem.1 ht
  exact h q _ hq (List.getElem?_eq_getElem hq)

set_option maxHeartbeats 1000000 in
theorem valid_any (n : Net) (v : Value) (w : World) (h : IsNet (Lt w.heap.size) w v n) :
    Calls Tryd.prog 22 #[v] w fun e w' => e = .returned (.bool (validB n)) ∧ Below w.heap.size w w' := by
  obtain ⟨tv, rfl, hp, hs, hk, ht⟩ := h
  obtain ⟨A, c, rfl, h1, h2, ht⟩ := ht.open_
  by_cases g1 : 1 ≤ n.places
  · by_cases g2 : n.places ≤ 40
    · by_cases g3 : n.trans.length ≤ 60
      · go_enter Tryd.func22, Tryd.ntmps22
        go_wp2_with fail
        go_loopw [22] (fun i wr => ∃ k : Nat, k ≤ n.trans.length ∧ i = .int .i64 k ∧ (∀ j t, j < k → n.trans[j]? = some t → trOk n.places t = true) ∧ Below w.heap.size w wr ∧ Blk wr w.heap.size 24 #[.int .i64 n.places, .slice A n.trans.length c, .int .i64 n.source, .int .i64 n.sink]) (fun i _ => n.trans.length - (intOf i).toNat)
        case atStart => exact ⟨0, Nat.zero_le _, rfl, fun j _ h => absurd h (by omega), (Below.refl _ _).alloc (Nat.le_refl _) _, Blk.new _ _ _⟩
        case round =>
          obtain ⟨k, hk', rfl, hp', hb, hB⟩ := hrel
          have HP := Lib.hid hp'
          clear hp'
          have hlt0 := hB.lt
          obtain ⟨q0, q1, q2, q3⟩ := hB.c4
          by_cases hlt : k < n.trans.length
          · obtain ⟨b, o, t, iv, ov, rfl, hD, hx, hl, hi, ho, c0, c1, c2⟩ := (ht.now hb).at_ hlt
            obtain ⟨Ai, ci, rfl, i1, i2, hi⟩ := hi.open_
            obtain ⟨Ao, co, rfl, o1, o2, ho⟩ := ho.open_
            have HX := Lib.hid hx
            clear hx
            by_cases hlab : t.label.toList = []
            have HLab := Lib.hid (labelOk_empty hlab)
            rotate_left
            go_wp2_with fail
            refine (isName_any _ _ hl).mono ?_
            rintro e w0 ⟨rfl, rfl⟩
            have HLab := Lib.hid (labelOk_full hlab)
            generalize isNameB t.label = q at HLab ⊢
            cases q
            · have HE : Hid (validB n = false) := valid_bad_tr HX.out (by unfold trOk; rw [HLab.out]; rfl)
              go_wp2_with fail
              go_ret
              exact ⟨ret_bool HE.out.symm, bbox hb _⟩
            clear hlab
            go_wp2_with fail
            rotate_left
            go_wp2_with fail
            all_goals
              have hB1 := hB.alloc (.cells #[.string t.label, .slice Ai t.ins.length ci, .slice Ao t.outs.length co] 30)
              have hT1 := Blk.new wr 30 #[.string t.label, .slice Ai t.ins.length ci, .slice Ao t.outs.length co]
              refine (places_any _ _ _ _ _ t.ins _ (by exact hi.now (bone _ _))).mono ?_
              rintro e w1 ⟨rfl, hb1⟩
              obtain ⟨p0, p1, p2, p3⟩ := (hB1.now hb1).c4
              obtain ⟨r0, r1, r2⟩ := (hT1.now hb1).c3
              have HB1 := Lib.hid (hB1.now hb1)
              clear hB1 hT1
              generalize hq : placesB n.places t.ins = qi
              have HI := Lib.hid hq
              clear hq
              cases qi
              · have HE : Hid (validB n = false) := valid_bad_tr HX.out (by unfold trOk; rw [HI.out]; simp)
                go_wp2_with fail
                go_ret
                exact ⟨ret_bool HE.out.symm, bthen (bbox hb _) hb1⟩
              · go_wp2_with fail
                refine (places_any _ _ _ _ _ t.outs _ (by exact ho.now (bthen (bone _ _) hb1))).mono ?_
                rintro e w2 ⟨rfl, hb2⟩
                generalize hq : placesB n.places t.outs = qo
                have HO := Lib.hid hq
                clear hq
                cases qo
                · have HE : Hid (validB n = false) := valid_bad_tr HX.out (by unfold trOk; rw [HO.out]; simp)
                  go_wp2_with fail
                  go_ret
                  exact ⟨ret_bool HE.out.symm, bthen (bthen (bbox hb _) hb1) hb2⟩
                · go_wp2_with fail
                  go_roundw
                  case rel => exact ⟨k + 1, by omega, by go_num, fun j t' hj ht' => by
                    by_cases e : j = k
                    · subst e; rw [HX.out] at ht'; injection ht' with ht'; subst ht'
                      unfold trOk; rw [HLab.out, HI.out, HO.out]; rfl
                    · exact HP.out j t' (by omega) ht', bthen (bthen (bbox hb _) hb1) hb2, HB1.out.now hb2⟩
                  case measure => simp [intOf]; omega
          · have HA := Lib.hid (all_ok (n := n) (fun j t hj => HP.out j t (by omega)))
            go_wp2_with fail
            refine (places_any _ _ _ _ _ [n.source] _ (by exact SlI.single hs)).mono ?_
            rintro e w1 ⟨rfl, hb1⟩
            have hB1 := (hB.alloc (.cells #[.int .i64 n.source] 3)).now hb1
            obtain ⟨p0, p1, p2, p3⟩ := hB1.c4
            have hsz1 := hB1.lt
            rw [places_single]
            generalize hq : inside n.places n.source = qs
            have HS := Lib.hid hq
            clear hq
            cases qs
            · have HE : Hid (validB n = false) := by show validB n = false; unfold validB; rw [HS.out]; simp
              go_wp2_with fail
              go_ret
              exact ⟨ret_bool HE.out.symm, bthen (bbox hb _) hb1⟩
            · go_wp2_with fail
              refine (places_any _ _ _ _ _ [n.sink] _ (by exact SlI.single ‹_›)).mono ?_
              rintro e w2 ⟨rfl, hb2⟩
              rw [places_single]
              have HE : Hid (validB n = inside n.places n.sink) := by show validB n = _; unfold validB; rw [HS.out, HA.out]; simp [g1, g2, g3]
              generalize inside n.places n.sink = qk at HE
              go_wp2_with fail
              go_ret
              exact ⟨ret_bool HE.out.symm, bthen (bbox (bthen (bbox hb _) hb1) _) hb2⟩
      · have HE : Hid (validB n = false) := by show validB n = false; unfold validB; simp [g3]
        go_enter Tryd.func22, Tryd.ntmps22
        go_wp2_with fail
        go_ret
        exact ⟨ret_bool HE.out.symm, bone _ _⟩
    · have HE : Hid (validB n = false) := by show validB n = false; unfold validB; simp [g2]
      go_enter Tryd.func22, Tryd.ntmps22
      go_wp2_with fail
      go_ret
      exact ⟨ret_bool HE.out.symm, bone _ _⟩
  · have HE : Hid (validB n = false) := by show validB n = false; unfold validB; simp [g1]
    go_enter Tryd.func22, Tryd.ntmps22
    go_wp2_with fail
    go_ret
    exact ⟨ret_bool HE.out.symm, bone _ _⟩

set_option maxHeartbeats 1000000 in
theorem valid_ref (n : Net) (v : Value) (w : World) (h : IsNet (Lt w.heap.size) w v n) :
    Calls Tryd.prog 6 #[v] w fun e w' => e = .returned (.bool (validB n)) ∧ Below w.heap.size w w' := by
  obtain ⟨tv, rfl, hp, hs, hk, ht⟩ := h
  obtain ⟨A, c, rfl, h1, h2, ht⟩ := ht.open_
  by_cases g : 1 ≤ n.places ∧ n.places ≤ 40 ∧ n.trans.length ≤ 60 ∧ 0 ≤ n.source ∧ n.source < n.places ∧ 0 ≤ n.sink ∧ n.sink < n.places
  · obtain ⟨g1, g2, g3, g4, g5, g6, g7⟩ := g
    go_enter Tryd.func6, Tryd.ntmps6
    go_wp2_with fail
    go_loopw [3] (fun i wr => ∃ k : Nat, k ≤ n.trans.length ∧ i = .int .i64 k ∧ (∀ j t, j < k → n.trans[j]? = some t → trOk n.places t = true) ∧ Below w.heap.size w wr ∧ Blk wr w.heap.size 24 #[.int .i64 n.places, .slice A n.trans.length c, .int .i64 n.source, .int .i64 n.sink]) (fun i _ => n.trans.length - (intOf i).toNat)
    case atStart => exact ⟨0, Nat.zero_le _, rfl, fun j _ h => absurd h (by omega), (Below.refl _ _).alloc (Nat.le_refl _) _, Blk.new _ _ _⟩
    case round =>
      obtain ⟨k, hk', rfl, hp', hb, hB⟩ := hrel
      have HP := Lib.hid hp'
      clear hp'
      have hlt0 := hB.lt
      obtain ⟨q0, q1, q2, q3⟩ := hB.c4
      by_cases hlt : k < n.trans.length
      · obtain ⟨b, o, t, iv, ov, rfl, hD, hx, hl, hi, ho, c0, c1, c2⟩ := (ht.now hb).at_ hlt
        obtain ⟨Ai, ci, rfl, i1, i2, hi⟩ := hi.open_
        obtain ⟨Ao, co, rfl, o1, o2, ho⟩ := ho.open_
        have HX := Lib.hid hx
        clear hx
        by_cases hlab : t.label.toList = []
        have HLab := Lib.hid (labelOk_empty hlab)
        rotate_left
        go_wp2_with fail
        refine (isName_ref _ _ hl).mono ?_
        rintro e w0 ⟨rfl, rfl⟩
        have HLab := Lib.hid (labelOk_full hlab)
        generalize isNameB t.label = q at HLab ⊢
        cases q
        · have HE : Hid (validB n = false) := valid_bad_tr HX.out (by unfold trOk; rw [HLab.out]; rfl)
          go_wp2_with fail
          go_ret
          exact ⟨ret_bool HE.out.symm, bbox hb _⟩
        clear hlab
        go_wp2_with fail
        rotate_left
        go_wp2_with fail
        all_goals
          have hB1 := hB.alloc (.cells #[.string t.label, .slice Ai t.ins.length ci, .slice Ao t.outs.length co] 30)
          have hT1 := Blk.new wr 30 #[.string t.label, .slice Ai t.ins.length ci, .slice Ao t.outs.length co]
          refine (places_ref _ _ t.ins _ (by exact hi.now (bone _ _))).mono ?_
          rintro e w1 ⟨rfl, hb1⟩
          obtain ⟨p0, p1, p2, p3⟩ := (hB1.now hb1).c4
          obtain ⟨r0, r1, r2⟩ := (hT1.now hb1).c3
          have HB1 := Lib.hid (hB1.now hb1)
          clear hB1 hT1
          generalize hq : placesB n.places t.ins = qi
          have HI := Lib.hid hq
          clear hq
          cases qi
          · have HE : Hid (validB n = false) := valid_bad_tr HX.out (by unfold trOk; rw [HI.out]; simp)
            go_wp2_with fail
            go_ret
            exact ⟨ret_bool HE.out.symm, bthen (bbox hb _) hb1⟩
          · go_wp2_with fail
            refine (places_ref _ _ t.outs _ (by exact ho.now (bthen (bone _ _) hb1))).mono ?_
            rintro e w2 ⟨rfl, hb2⟩
            generalize hq : placesB n.places t.outs = qo
            have HO := Lib.hid hq
            clear hq
            cases qo
            · have HE : Hid (validB n = false) := valid_bad_tr HX.out (by unfold trOk; rw [HO.out]; simp)
              go_wp2_with fail
              go_ret
              exact ⟨ret_bool HE.out.symm, bthen (bthen (bbox hb _) hb1) hb2⟩
            · go_wp2_with fail
              go_roundw
              case rel => exact ⟨k + 1, by omega, by go_num, fun j t' hj ht' => by
                by_cases e : j = k
                · subst e; rw [HX.out] at ht'; injection ht' with ht'; subst ht'
                  unfold trOk; rw [HLab.out, HI.out, HO.out]; rfl
                · exact HP.out j t' (by omega) ht', bthen (bthen (bbox hb _) hb1) hb2, HB1.out.now hb2⟩
              case measure => simp [intOf]; omega
      · have HA := Lib.hid (all_ok (n := n) (fun j t hj => HP.out j t (by omega)))
        have HE : Hid (validB n = true) := by show validB n = _; unfold validB inside; rw [HA.out]; simp [g1, g2, g3, g4, g5, g6, g7]
        go_wp2_with fail
        go_ret
        exact ⟨ret_bool HE.out.symm, hb⟩
  · have HE : Hid (validB n = false) := by
      show validB n = false
      cases e : validB n with
      | false => rfl
      | true => exact absurd (by unfold validB inside at e; simp at e; omega) g
    by_cases g1 : 1 ≤ n.places
    rotate_left
    · clear g
      go_enter Tryd.func6, Tryd.ntmps6
      go_wp2_with fail
      go_ret
      exact ⟨ret_bool HE.out.symm, bone _ _⟩
    by_cases g2 : n.places ≤ 40
    rotate_left
    · clear g
      go_enter Tryd.func6, Tryd.ntmps6
      go_wp2_with fail
      go_ret
      exact ⟨ret_bool HE.out.symm, bone _ _⟩
    by_cases g3 : n.trans.length ≤ 60
    rotate_left
    · clear g
      go_enter Tryd.func6, Tryd.ntmps6
      go_wp2_with fail
      go_ret
      exact ⟨ret_bool HE.out.symm, bone _ _⟩
    by_cases g4 : 0 ≤ n.source
    rotate_left
    · clear g
      go_enter Tryd.func6, Tryd.ntmps6
      go_wp2_with fail
      go_ret
      exact ⟨ret_bool HE.out.symm, bone _ _⟩
    by_cases g5 : n.source < n.places
    rotate_left
    · clear g
      go_enter Tryd.func6, Tryd.ntmps6
      go_wp2_with fail
      go_ret
      exact ⟨ret_bool HE.out.symm, bone _ _⟩
    by_cases g6 : 0 ≤ n.sink
    rotate_left
    · clear g
      go_enter Tryd.func6, Tryd.ntmps6
      go_wp2_with fail
      go_ret
      exact ⟨ret_bool HE.out.symm, bone _ _⟩
    have g7 : ¬ n.sink < n.places := by omega
    clear g
    go_enter Tryd.func6, Tryd.ntmps6
    go_wp2_with fail
    go_ret
    exact ⟨ret_bool HE.out.symm, bone _ _⟩
end Go.Proofs.YtlkkfkkhllijbaaDoor
