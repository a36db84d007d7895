/- petri.Run, petri.Fire, petri.Word. -/
import Derived.Test.YtlkkfkkhllijbaaDoorRunSpec
namespace Go.Proofs.YtlkkfkkhllijbaaDoor
open Go.RowKit

def RetIKE (zs : List Int) (k c : Int) (w : World) (e : Ending) (w' : World) : Prop := ∃ v, e = .returned (.tuple #[v, .int .i64 k, .int .i64 c]) ∧ SlI (Lt w'.heap.size) w' v zs ∧ Below w.heap.size w w'
def RetSE (zs : List ByteArray) (c : Int) (w : World) (e : Ending) (w' : World) : Prop := ∃ v, e = .returned (.tuple #[v, .int .i64 c]) ∧ SlS (Lt w'.heap.size) w' v zs ∧ Below w.heap.size w w'
theorem appInts : AppInfo Tryd.prog 28 3 1 := AppInfo.mk' Tryd.underlying28 (by kernel_rfl) (bytes := 8) (z := .int .i64 0) (by omega) rfl (by omega)
theorem appStrs : AppInfo Tryd.prog 48 9 1 := AppInfo.mk' Tryd.underlying48 (by kernel_rfl) (bytes := 16) (z := .string ⟨#[]⟩) (by omega) rfl (by omega)


set_option maxHeartbeats 1000000 in
theorem run_any (n : Net) (v mv lv : Value) (m l : List Int) (w : World) (h : IsNet (Lt w.heap.size) w v n) (hm : SlI (Lt w.heap.size) w mv m) (hl : SlI (Lt w.heap.size) w lv l) :
    Calls Tryd.prog 15 #[v, mv, lv] w (RetIKE (runB n m l).1 ((runB n m l).2.1 : Int) (runB n m l).2.2 w) := by
  have h0 := h
  obtain ⟨tv, rfl, hp, hs, hkk, ht⟩ := h
  obtain ⟨A, c, rfl, h1, h2, ht⟩ := ht.open_
  obtain ⟨Al, cl, rfl, l1, l2, hl⟩ := hl.open_
  go_enter Tryd.func15, Tryd.ntmps15
  go_wp2_with fail
  have hb := bone w (Obj.cells #[Value.int IntKind.i64 n.places, Value.slice A n.trans.length c, Value.int IntKind.i64 n.source, Value.int IntKind.i64 n.sink] 24)
  refine (marking_any n _ _ m _ (h0.now hb) (hm.now hb)).mono ?_
  rintro e w1 ⟨rfl, hb1⟩
  have hbw := bthen hb hb1
  have hB1 := (Blk.new w 24 #[.int .i64 n.places, .slice A n.trans.length c, .int .i64 n.source, .int .i64 n.sink]).now hb1
  generalize hq : (validB n && markingB n.places m) = q
  have HQ := Lib.hid hq
  clear hq
  cases q
  · have HE : Hid (runB n m l = ([], 0, 1)) := by show runB n m l = _; unfold runB; rw [HQ.out]; rfl
    go_wp2_with fail
    go_ret3
    rw [HE.out]
    exact ⟨_, rfl, Sl.none_, hbw⟩
  · have hvm := HQ.out
    rw [Bool.and_eq_true] at hvm
    obtain ⟨hv, hmk⟩ := hvm
    have HV := Lib.hid hv
    by_cases hlen : 1000 < l.length
    · have HE : Hid (runB n m l = ([], 0, 5)) := by show runB n m l = _; unfold runB; rw [HQ.out, if_pos hlen]; rfl
      clear hv hmk
      go_wp2_with fail
      go_ret3
      rw [HE.out]
      exact ⟨_, rfl, Sl.none_, hbw⟩
    · have HE : Hid (runB n m l = runFrom n m (l.drop 0) 0) := by show runB n m l = _; unfold runB; rw [HQ.out, if_neg hlen]; rfl
      have hm40 : m.length ≤ 40 := by have := markOk hmk; have := validOk hv; omega
      have HMK := Lib.hid hmk
      clear hv hmk
      go_wp2_with fail
      refine (cloneI _ m _ (hm.now hbw) (by omega)).mono ?_
      rintro e w2 ⟨vo, rfl, hown, hb2⟩
      have hcl : SlI (Lt w2.heap.size) w2 vo m := SlI.of_own hown (hm.fits)
      have hB2 := hB1.now hb2
      have hbw2 := bthen hbw hb2
      clear hown hB1 hb1 hb2
      go_wp2_with fail
      go_loopw [9, 27] (fun nv i wr => ∃ (j : Nat) (cur : List Int), j ≤ l.length ∧ i = .int .i64 j ∧ runFrom n m (l.drop 0) 0 = runFrom n cur (l.drop j) j ∧ markingB n.places cur = true ∧ SlI (Lt wr.heap.size) wr nv cur ∧ Below w.heap.size w wr ∧ Blk wr w.heap.size 24 #[.int .i64 n.places, .slice A n.trans.length c, .int .i64 n.source, .int .i64 n.sink]) (fun _ i _ => l.length - (intOf i).toNat)
      case atStart => exact ⟨0, m, Nat.zero_le _, rfl, rfl, HMK.out, hcl, hbw2, hB2⟩
      case round =>
        obtain ⟨j, cur, hj, rfl, hrun, hmk, hcur, hbr, hBr⟩ := hrel
        have HR := Lib.hid hrun
        have HMC := Lib.hid hmk
        clear hrun hmk
        obtain ⟨q0, q1, q2, q3⟩ := hBr.c4
        obtain ⟨Ac, cc, rfl, k1, k2, hcur⟩ := hcur.open_
        by_cases hlt : j < l.length
        · obtain ⟨b, o, t, rfl, hD, hx, hf, c0⟩ := (hl.now hbr).at_ hlt
          have HX := Lib.hid hx
          have HF := Lib.hid (fire_any n _ _ cur t wr (h0.now hbr) hcur HV.out HMC.out)
          clear hx
          go_wp2_with fail
          refine HF.out.mono ?_
          rintro e w3 ⟨v', rfl, hsl, hb3⟩
          clear HF
          by_cases h00 : (fireB n cur t).2 = 0
          · have HS := Lib.hid (run_step HX.out h00)
            have HM := Lib.hid (fire_mark HV.out HMC.out h00)
            have h01 : ((fireB n cur t).2 != 0) = false := by simpa using h00
            generalize fireB n cur t = r at *
            clear h00
            go_wp2_with fail
            go_roundw
            case rel => exact ⟨j + 1, r.1, by omega, by go_num, HR.out.trans HS.out, HM.out, hsl, bthen hbr hb3, hBr.now hb3⟩
            case measure => simp [intOf]; omega
          · have HS := Lib.hid (run_stop HX.out h00)
            have h01 : ((fireB n cur t).2 != 0) = true := by simpa using h00
            generalize fireB n cur t = r at *
            clear h00
            go_wp2_with fail
            go_ret3
            rw [HE.out, HR.out, HS.out]
            exact ⟨_, rfl, Sl.none_, bthen hbr hb3⟩
        · obtain rfl : j = l.length := by omega
          go_wp2_with fail
          go_ret3
          rw [HE.out, HR.out, run_end]
          exact ⟨_, rfl, hcur, hbr⟩

theorem size_zero_iff (s : ByteArray) : s.size = 0 ↔ s.toList = [] := (size_toList s).symm

set_option maxHeartbeats 1000000 in
theorem word_any (n : Net) (v lv : Value) (l : List Int) (w : World) (h : IsNet (Lt w.heap.size) w v n) (hl : SlI (Lt w.heap.size) w lv l) :
    Calls Tryd.prog 16 #[v, lv] w (RetSE (wordB n l).1 (wordB n l).2 w) := by
  have h0 := h
  obtain ⟨tv, rfl, hp, hs, hkk, ht⟩ := h
  obtain ⟨A, c, rfl, h1, h2, ht⟩ := ht.open_
  obtain ⟨Al, cl, rfl, l1, l2, hl⟩ := hl.open_
  go_enter Tryd.func16, Tryd.ntmps16
  go_wp2_with fail
  have hb := bone w (Obj.cells #[Value.int IntKind.i64 n.places, Value.slice A n.trans.length c, Value.int IntKind.i64 n.source, Value.int IntKind.i64 n.sink] 24)
  refine (valid_any n _ _ (h0.now hb)).mono ?_
  rintro e w1 ⟨rfl, hb1⟩
  have hbw := bthen hb hb1
  have hB1 := (Blk.new w 24 #[.int .i64 n.places, .slice A n.trans.length c, .int .i64 n.source, .int .i64 n.sink]).now hb1
  generalize hq : validB n = q
  have HQ := Lib.hid hq
  clear hq
  cases q
  · have HE : Hid (wordB n l = ([], 1)) := by show wordB n l = _; unfold wordB; rw [HQ.out]; rfl
    go_wp2_with fail
    go_ret2
    rw [HE.out]
    exact ⟨_, rfl, Sl.none_, hbw⟩
  · by_cases hlen : 1000 < l.length
    · have HE : Hid (wordB n l = ([], 5)) := by show wordB n l = _; unfold wordB; rw [HQ.out, if_pos hlen]; rfl
      go_wp2_with fail
      go_ret2
      rw [HE.out]
      exact ⟨_, rfl, Sl.none_, hbw⟩
    · have HE : Hid (wordB n l = wordFrom n (l.drop 0) []) := by show wordB n l = _; unfold wordB; rw [HQ.out, if_neg hlen]; rfl
      have hlt1 := hB1.lt
      go_wp2_with fail
      go_loopw [6, 20] (fun ov i wr => ∃ (j : Nat) (outs : List ByteArray), j ≤ l.length ∧ i = .int .i64 j ∧ wordFrom n (l.drop 0) [] = wordFrom n (l.drop j) outs ∧ outs.length ≤ j ∧ (∀ s ∈ outs, s.size ≤ maxLen) ∧ wr.ownsRow (w.heap.size + 1) 9 1 ov outs.length (outs.map Value.string) ∧ Below w.heap.size w wr ∧ Blk wr w.heap.size 24 #[.int .i64 n.places, .slice A n.trans.length c, .int .i64 n.source, .int .i64 n.sink]) (fun _ i _ => l.length - (intOf i).toNat)
      case atStart => exact ⟨0, [], Nat.zero_le _, rfl, rfl, Nat.le_refl _, by simp, World.ownsRow_nil _ _ _ _, hbw, hB1⟩
      case round =>
        obtain ⟨j, outs, hj, rfl, hrun, hol, hos, hown, hbr, hBr⟩ := hrel
        have HR := Lib.hid hrun
        have HOS := Lib.hid hos
        clear hrun hos
        have hltr := hBr.lt
        obtain ⟨q0, q1, q2, q3⟩ := hBr.c4
        by_cases hlt : j < l.length
        · obtain ⟨b, o, t, rfl, hD, hx, hf, c0⟩ := (hl.now hbr).at_ hlt
          by_cases h3 : t < 0 ∨ (n.trans.length : Int) ≤ t
          · have HS := Lib.hid (word_bad (n := n) (out := outs) hx h3)
            clear hx
            by_cases h4 : t < 0
            · clear h3
              go_wp2_with fail
              go_ret2
              rw [HE.out, HR.out, HS.out]
              exact ⟨_, rfl, Sl.none_, hbr⟩
            · have h5 : (n.trans.length : Int) ≤ t := by omega
              clear h3
              go_wp2_with fail
              go_ret2
              rw [HE.out, HR.out, HS.out]
              exact ⟨_, rfl, Sl.none_, hbr⟩
          · obtain ⟨k, rfl⟩ := Int.eq_ofNat_of_zero_le (show 0 ≤ t by omega)
            have hkl : k < n.trans.length := by omega
            clear h3
            obtain ⟨b2, o2, x, iv, ov', rfl, hD2, hx2, hlb, hti, hto, d0, d1, d2⟩ := (ht.now hbr).at_ hkl
            have HX := Lib.hid hx
            have HX2 := Lib.hid hx2
            clear hx hx2
            by_cases hlab : x.label.toList = []
            · have HS := Lib.hid (word_skip (out := outs) HX.out HX2.out ((size_zero_iff _).2 hlab))
              go_wp2_with fail
              go_roundw
              case rel => exact ⟨j + 1, outs, by omega, by go_num, HR.out.trans HS.out, by omega, HOS.out, hown, hbr, hBr⟩
              case measure => simp [intOf]; omega
            · have HS := Lib.hid (word_take (out := outs) HX.out HX2.out (fun e => hlab ((size_zero_iff _).1 e)))
              have hlab2 : (!x.label.toList.isEmpty) = true := by simpa using hlab
              go_wp2_with (at_builtin; refine wpList_push appStrs rfl (.tmp 41) (.tmp 43) rfl wr [.string x.label] rfl (by simp [Value.oneCell']) _ outs.length (outs.map Value.string) rfl hown rfl (by omega) (by omega) ?_; intro v' w' hown' hgr hat)
              have hbg : Below (w.heap.size + 1) wr w' := below_of_grown hgr (by omega) (fun g hg => (hown.lt g hg).1)
              go_roundw
              case rel =>
                refine ⟨j + 1, outs ++ [x.label], by omega, by go_num, HR.out.trans HS.out, by simp; omega, ?_, ?_, hbr.trans (hbg.mono (by omega)), hBr.below hbg (by omega)⟩
                · intro s hs
                  rcases List.mem_append.1 hs with hs | hs
                  · exact HOS.out s hs
                  · rw [List.mem_singleton] at hs; subst hs; exact hlb
                · simpa using hown'
              case measure => simp [intOf]; omega
        · obtain rfl : j = l.length := by omega
          go_wp2_with fail
          go_ret2
          rw [HE.out, HR.out, word_end]
          exact ⟨_, rfl, SlS.of_own hown HOS.out, hbr⟩
end Go.Proofs.YtlkkfkkhllijbaaDoor
