/- casebookref02.Insert. -/
import Derived.Test.YtjglmjdfndcmmaaSortS

namespace Go.Proofs.Ytjglmjdfndcmmaa
open Go.RowKit

theorem appStrs : AppInfo Try.prog 51 9 1 := AppInfo.mk' Try.underlying51 (by kernel_rfl) (bytes := 16) (z := .string ⟨#[]⟩) (by omega) rfl (by omega)

def RetIns (l : List Bs) (s : Bs) (w : World) (e : Ending) (w' : World) : Prop := ∃ v' r, e = .returned v' ∧ SlS (Lt w'.heap.size) w' v' (r.map mkS) ∧ InsRes l s r ∧ Below w.heap.size w w'

set_option maxHeartbeats 1000000 in
set_option maxRecDepth 100000 in
theorem insert_ref (v : Value) (l : List Bs) (s : ByteArray) (w : World) (hv : SlS (Lt w.heap.size) w v (l.map mkS)) (ha : Asc l) (hs : s.size ≤ maxLen) (hl : l.length ≤ 1000) :
    Calls Try.prog 91 #[v, .string s] w (RetIns l s.data.toList w) := by
  have HA := Lib.hid ha
  clear ha
  have hv0 := hv
  obtain ⟨A, c, rfl, h1, h2, hv⟩ := hv.open_
  rw [List.length_map] at h1 hv hv0 ⊢
  have HF : Hid (∀ x ∈ l, x.length ≤ maxLen) := fun x hx => by
    obtain ⟨q, hq, rfl⟩ := List.mem_iff_getElem.1 hx
    obtain ⟨_, _, z, _, _, hz, hf, _⟩ := hv.at_ (k := q) (by omega)
    rw [List.getElem?_map, List.getElem?_eq_getElem hq] at hz
    injection hz with hz
    rw [← hz] at hf; exact hf
  go_enter Try.func91, Try.ntmps91
  go_wp2_with fail
  go_loopw [5, 6, 7] (fun ov dv i wr => ∃ (k : Nat) (d : Bool) (out : List Bs), k ≤ l.length ∧ i = .int .i64 k ∧ dv = .bool d ∧ InsInv l s.data.toList k d out ∧ OwnS wr w.heap.size ov out ∧ Below w.heap.size w wr) (fun _ _ i _ => l.length - (intOf i).toNat)
  case atStart => exact ⟨0, false, [], Nat.zero_le _, rfl, rfl, InsInv.start _ _, World.ownsRow_nil _ _ _ _, Below.refl _ _⟩
  case round =>
    obtain ⟨k, d, out, hk, rfl, rfl, hinv, hown, hbr⟩ := hrel
    have hol := hinv.len
    have HI := Lib.hid hinv
    clear hinv
    have hols : out.length ≤ 1001 := by
      cases d <;> simp at hol <;> omega
    clear hol
    have hszr := hbr.size
    by_cases hlt : k < l.length
    · obtain ⟨b, o, x, rfl, hD, hx, hf, hcw⟩ := hv.at_ hlt
      have hc := (hbr.cell (p := ⟨b, o + k, none⟩) hD).trans hcw
      have HCW := Lib.hid hcw
      clear hcw
      obtain ⟨y, hy, hxy⟩ : ∃ y, l[k]? = some y ∧ mkS y = x := by
        rw [List.getElem?_map, Option.map_eq_some_iff] at hx
        exact hx
      have HY := Lib.hid hy
      have HXY : Hid (x.toList = y ∧ Value.string x = encStr y) := by
        subst hxy
        exact ⟨mkS_toList y, rfl⟩
      have HSL : Hid (s.toList = s.data.toList) := Lib.toList_data s
      clear hx hy hxy
      by_cases he : y = s.data.toList
      · have hd : (x.toList == s.toList) = true := by rw [HXY.out.1, HSL.out, he]; simp
        have HR : Hid (InsRes l s.data.toList l) := InsRes.same HA.out (by rw [← he]; exact List.mem_of_getElem? HY.out)
        clear he
        go_wp2_with fail
        go_ret
        exact ⟨_, l, rfl, hv0.now hbr, HR.out, hbr⟩
      have hd : (x.toList == s.toList) = false := by rw [HXY.out.1, HSL.out]; simpa using he
      have HE := Lib.hid he
      clear he
      cases d
      · by_cases hls : y < s.data.toList
        · have hd2 : Op.bytesLess x.toList s.toList = true := by rw [HXY.out.1, HSL.out, less_eq]; simpa using hls
          have HN := Lib.hid (HI.out.plain HA.out HY.out hls)
          clear hls
          go_wp2_with (at_builtin; refine wpList_push appStrs rfl (.tmp 35) (.tmp 40) rfl _ [.string x] rfl (by simp [Value.oneCell']) _ out.length (out.map encStr) rfl hown rfl (by omega) hszr ?_; intro v' w' hown' hgr hat)
          go_roundw
          case rel =>
            refine ⟨k + 1, false, out ++ [y], by omega, by go_num, rfl, HN.out, ?_, hbr.trans (below_of_grown hgr hszr (fun g hg => (hown.lt g hg).1))⟩
            unfold OwnS
            rw [List.length_append, List.map_append, List.map_cons, List.map_nil, ← HXY.out.2]
            exact hown'
          case measure => simp [intOf]; omega
        · have hd2 : Op.bytesLess x.toList s.toList = false := by rw [HXY.out.1, HSL.out, less_eq]; simpa using hls
          have HN := Lib.hid (HI.out.ins HY.out (bs_total hls HE.out))
          clear hls
          go_upto_region 11 with (at_builtin; refine wpList_push appStrs rfl (.tmp 31) (.tmp 33) rfl _ [.string s] rfl (by simp [Value.oneCell']) _ out.length (out.map encStr) rfl hown rfl (by omega) hszr ?_; intro v1 w1 hown1 hgr1 hat1)
          have hb1 : Below w.heap.size w w1 := hbr.trans (below_of_grown hgr1 hszr (fun g hg => (hown.lt g hg).1))
          have hc1 : w1.cell? ⟨b, o + k, none⟩ = some (.string x) := (hb1.cell (p := ⟨b, o + k, none⟩) hD).trans HCW.out
          have hown1' : OwnS w1 w.heap.size v1 (out ++ [s.data.toList]) := by
            unfold OwnS
            rw [List.length_append, List.map_append]
            have e : [s.data.toList].map encStr = [Value.string s] := by
              show [Value.string (mkS s.data.toList)] = _
              rw [mkS_of]
            rw [e]
            exact hown1
          have hl1 : (out ++ [s.data.toList]).length < 10000000 := by rw [List.length_append]; simp; omega
          clear hc hgr1 hat1 hown hown1
          go_wp2_with (at_builtin; refine wpList_push appStrs rfl (.tmp 35) (.tmp 40) rfl _ [.string x] rfl (by simp [Value.oneCell']) _ (out ++ [s.data.toList]).length ((out ++ [s.data.toList]).map encStr) rfl hown1' rfl hl1 hb1.size ?_; intro v' w' hown' hgr hat)
          go_roundw
          case rel =>
            refine ⟨k + 1, true, out ++ [s.data.toList] ++ [y], by omega, by go_num, rfl, HN.out, ?_, hb1.trans (below_of_grown hgr hb1.size (fun g hg => (hown1'.lt g hg).1))⟩
            unfold OwnS
            rw [List.length_append, List.map_append (l₁ := out ++ [s.data.toList]), List.map_cons, List.map_nil, ← HXY.out.2]
            exact hown'
          case measure => simp [intOf]; omega
      · have HN := Lib.hid (HI.out.after HA.out HY.out)
        go_wp2_with (at_builtin; refine wpList_push appStrs rfl (.tmp 35) (.tmp 40) rfl _ [.string x] rfl (by simp [Value.oneCell']) _ out.length (out.map encStr) rfl hown rfl (by omega) hszr ?_; intro v' w' hown' hgr hat)
        go_roundw
        case rel =>
          refine ⟨k + 1, true, out ++ [y], by omega, by go_num, rfl, HN.out, ?_, hbr.trans (below_of_grown hgr hszr (fun g hg => (hown.lt g hg).1))⟩
          unfold OwnS
          rw [List.length_append, List.map_append, List.map_cons, List.map_nil, ← HXY.out.2]
          exact hown'
        case measure => simp [intOf]; omega
    · have hkl : k = l.length := by omega
      have HFO : Hid (∀ r, InsRes l s.data.toList r → ∀ x ∈ r, x.length ≤ maxLen) := fun r hr x hx => by
        rcases (hr.2.1 x).1 hx with h' | h'
        · exact HF.out x h'
        · rw [h']; exact hs
      cases d
      · have HN := Lib.hid (HI.out.doneF hkl)
        go_wp2_with (at_builtin; refine wpList_push appStrs rfl (.tmp 44) (.tmp 46) rfl _ [.string s] rfl (by simp [Value.oneCell']) _ out.length (out.map encStr) rfl hown rfl (by omega) hszr ?_; intro v' w' hown' hgr hat)
        go_ret
        have hown1' : OwnS w' w.heap.size v' (out ++ [s.data.toList]) := by
          unfold OwnS
          rw [List.length_append, List.map_append]
          have e : [s.data.toList].map encStr = [Value.string s] := by
            show [Value.string (mkS s.data.toList)] = _
            rw [mkS_of]
          rw [e]
          exact hown'
        exact ⟨_, _, rfl, hown1'.slS (HFO.out _ HN.out), HN.out, hbr.trans (below_of_grown hgr hszr (fun g hg => (hown.lt g hg).1))⟩
      · have HN := Lib.hid (HI.out.doneT hkl)
        go_wp2_with fail
        go_ret
        exact ⟨_, _, rfl, OwnS.slS hown (HFO.out _ HN.out), HN.out, hbr⟩
end Go.Proofs.Ytjglmjdfndcmmaa
