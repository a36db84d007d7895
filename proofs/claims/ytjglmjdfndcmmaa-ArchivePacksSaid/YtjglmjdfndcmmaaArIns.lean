/- casebookref02.Insert of a text that is not there yet, and casebookref02.Index. -/
import Derived.Test.YtjglmjdfndcmmaaInsR
import Derived.Test.YtjglmjdfndcmmaaArSpec
import Derived.Deep.QuietTactic
import Derived.BigQuiet
set_option linter.all false
namespace Go.Proofs.Ytjglmjdfndcmmaa
open Go.RowKit

def RetInsO (l : List Bs) (s : Bs) (w : World) (e : Ending) (w' : World) : Prop := ∃ v' r, e = .returned v' ∧ OwnS w' w.heap.size v' r ∧ InsRes l s r ∧ Below w.heap.size w w'

set_option maxHeartbeats 1000000 in
set_option maxRecDepth 100000 in
theorem insert_new (v : Value) (l : List Bs) (s : ByteArray) (w : World) (hv : SlS (Lt w.heap.size) w v (l.map mkS)) (ha : Asc l) (hnew : s.data.toList ∉ l) (hl : l.length ≤ 1000) :
    Calls Try.prog 91 #[v, .string s] w (RetInsO l s.data.toList w) := by
  have HA := Lib.hid ha
  have HNEW := Lib.hid hnew
  clear ha hnew
  have hv0 := hv
  obtain ⟨A, c, rfl, h1, h2, hv⟩ := hv.open_
  rw [List.length_map] at h1 hv hv0 ⊢
  go_enter Try.func91, Try.ntmps91
  go_wp2_with fail
  go_loopw [5, 6, 7] (fun ov dv i wr => ∃ (k : Nat) (d : Bool) (out : List Bs), k ≤ l.length ∧ i = .int .i64 k ∧ dv = .bool d ∧ InsInv l s.data.toList k d out ∧ OwnS wr w.heap.size ov out ∧ Below w.heap.size w wr) (fun _ _ i _ => l.length - (intOf i).toNat)
  case atStart => exact ⟨0, false, [], Nat.zero_le _, rfl, rfl, InsInv.start _ _, World.ownsRow_nil _ _ _ _, Below.refl _ _⟩
  case round =>
    obtain ⟨k, d, out, hk, rfl, rfl, hinv, hown, hbr⟩ := hrel
    have hol := hinv.len
    have HI := Lib.hid hinv
    clear hinv
    have hols : out.length ≤ 1001 := by
      cases d <;> simp at hol <;> omega
    clear hol
    have hszr := hbr.size
    by_cases hlt : k < l.length
    · obtain ⟨b, o, x, rfl, hD, hx, hf, hcw⟩ := hv.at_ hlt
      have hc := (hbr.cell (p := ⟨b, o + k, none⟩) hD).trans hcw
      have HCW := Lib.hid hcw
      clear hcw
      obtain ⟨y, hy, hxy⟩ : ∃ y, l[k]? = some y ∧ mkS y = x := by
        rw [List.getElem?_map, Option.map_eq_some_iff] at hx
        exact hx
      have HY := Lib.hid hy
      have HXY : Hid (x.toList = y ∧ Value.string x = encStr y) := by
        subst hxy
        exact ⟨mkS_toList y, rfl⟩
      have HSL : Hid (s.toList = s.data.toList) := Lib.toList_data s
      clear hx hy hxy
      by_cases he : y = s.data.toList
      · exact absurd (by rw [← he]; exact List.mem_of_getElem? HY.out) HNEW.out
      have hd : (x.toList == s.toList) = false := by rw [HXY.out.1, HSL.out]; simpa using he
      have HE := Lib.hid he
      clear he
      cases d
      · by_cases hls : y < s.data.toList
        · have hd2 : Op.bytesLess x.toList s.toList = true := by rw [HXY.out.1, HSL.out, less_eq]; simpa using hls
          have HN := Lib.hid (HI.out.plain HA.out HY.out hls)
          clear hls
          go_wp2_with (at_builtin; refine wpList_push appStrs rfl (.tmp 35) (.tmp 40) rfl _ [.string x] rfl (by simp [Value.oneCell']) _ out.length (out.map encStr) rfl hown rfl (by omega) hszr ?_; intro v' w' hown' hgr hat)
          go_roundw
          case rel =>
            refine ⟨k + 1, false, out ++ [y], by omega, by go_num, rfl, HN.out, ?_, hbr.trans (below_of_grown hgr hszr (fun g hg => (hown.lt g hg).1))⟩
            unfold OwnS
            rw [List.length_append, List.map_append, List.map_cons, List.map_nil, ← HXY.out.2]
            exact hown'
          case measure => simp [intOf]; omega
        · have hd2 : Op.bytesLess x.toList s.toList = false := by rw [HXY.out.1, HSL.out, less_eq]; simpa using hls
          have HN := Lib.hid (HI.out.ins HY.out (bs_total hls HE.out))
          clear hls
          go_upto_region 11 with (at_builtin; refine wpList_push appStrs rfl (.tmp 31) (.tmp 33) rfl _ [.string s] rfl (by simp [Value.oneCell']) _ out.length (out.map encStr) rfl hown rfl (by omega) hszr ?_; intro v1 w1 hown1 hgr1 hat1)
          have hb1 : Below w.heap.size w w1 := hbr.trans (below_of_grown hgr1 hszr (fun g hg => (hown.lt g hg).1))
          have hc1 : w1.cell? ⟨b, o + k, none⟩ = some (.string x) := (hb1.cell (p := ⟨b, o + k, none⟩) hD).trans HCW.out
          have hown1' : OwnS w1 w.heap.size v1 (out ++ [s.data.toList]) := by
            unfold OwnS
            rw [List.length_append, List.map_append]
            have e : [s.data.toList].map encStr = [Value.string s] := by
              show [Value.string (mkS s.data.toList)] = _
              rw [mkS_of]
            rw [e]
            exact hown1
          have hl1 : (out ++ [s.data.toList]).length < 10000000 := by rw [List.length_append]; simp; omega
          clear hc hgr1 hat1 hown hown1
          go_wp2_with (at_builtin; refine wpList_push appStrs rfl (.tmp 35) (.tmp 40) rfl _ [.string x] rfl (by simp [Value.oneCell']) _ (out ++ [s.data.toList]).length ((out ++ [s.data.toList]).map encStr) rfl hown1' rfl hl1 hb1.size ?_; intro v' w' hown' hgr hat)
          go_roundw
          case rel =>
            refine ⟨k + 1, true, out ++ [s.data.toList] ++ [y], by omega, by go_num, rfl, HN.out, ?_, hb1.trans (below_of_grown hgr hb1.size (fun g hg => (hown1'.lt g hg).1))⟩
            unfold OwnS
            rw [List.length_append, List.map_append (l₁ := out ++ [s.data.toList]), List.map_cons, List.map_nil, ← HXY.out.2]
            exact hown'
          case measure => simp [intOf]; omega
      · have HN := Lib.hid (HI.out.after HA.out HY.out)
        go_wp2_with (at_builtin; refine wpList_push appStrs rfl (.tmp 35) (.tmp 40) rfl _ [.string x] rfl (by simp [Value.oneCell']) _ out.length (out.map encStr) rfl hown rfl (by omega) hszr ?_; intro v' w' hown' hgr hat)
        go_roundw
        case rel =>
          refine ⟨k + 1, true, out ++ [y], by omega, by go_num, rfl, HN.out, ?_, hbr.trans (below_of_grown hgr hszr (fun g hg => (hown.lt g hg).1))⟩
          unfold OwnS
          rw [List.length_append, List.map_append, List.map_cons, List.map_nil, ← HXY.out.2]
          exact hown'
        case measure => simp [intOf]; omega
    · have hkl : k = l.length := by omega
      cases d
      · have HN := Lib.hid (HI.out.doneF hkl)
        go_wp2_with (at_builtin; refine wpList_push appStrs rfl (.tmp 44) (.tmp 46) rfl _ [.string s] rfl (by simp [Value.oneCell']) _ out.length (out.map encStr) rfl hown rfl (by omega) hszr ?_; intro v' w' hown' hgr hat)
        go_ret
        have hown1' : OwnS w' w.heap.size v' (out ++ [s.data.toList]) := by
          unfold OwnS
          rw [List.length_append, List.map_append]
          have e : [s.data.toList].map encStr = [Value.string s] := by
            show [Value.string (mkS s.data.toList)] = _
            rw [mkS_of]
          rw [e]
          exact hown'
        exact ⟨_, _, rfl, hown1', HN.out, hbr.trans (below_of_grown hgr hszr (fun g hg => (hown.lt g hg).1))⟩
      · have HN := Lib.hid (HI.out.doneT hkl)
        go_wp2_with fail
        go_ret
        exact ⟨_, _, rfl, hown, HN.out, hbr⟩
def sameS (s : ByteArray) (y : ByteArray) : Bool := y.toList == s.toList
theorem atS_hit (l : List ByteArray) (s : ByteArray) (j : Nat) (y : ByteArray) (hy : l[j]? = some y) (h : sameS s y = true) (hn : ∀ q z, q < j → l[q]? = some z → sameS s z = false) : atS l s = j := by
  have hj : j < l.length := by
    rcases Nat.lt_or_ge j l.length with h | h
    · exact h
    · rw [List.getElem?_eq_none h] at hy; cases hy
  have : l.findIdx? (fun y => y.toList == s.toList) = some j := by
    rw [List.findIdx?_eq_some_iff_getElem]
    refine ⟨hj, ?_, fun q hq => ?_⟩
    · rw [List.getElem?_eq_getElem hj] at hy; injection hy with hy; rw [hy]; exact h
    · have := hn q _ hq (List.getElem?_eq_getElem (by omega)); simpa [sameS] using this
  unfold atS; rw [this]
theorem atS_miss (l : List ByteArray) (s : ByteArray) (hn : ∀ q z, q < l.length → l[q]? = some z → sameS s z = false) : atS l s = -1 := by
  have : l.findIdx? (fun y => y.toList == s.toList) = none := by
    rw [List.findIdx?_eq_none_iff]
    intro x hx
    obtain ⟨q, hq, rfl⟩ := List.mem_iff_getElem.1 hx
    exact hn q _ hq (List.getElem?_eq_getElem hq)
  unfold atS; rw [this]
set_option maxHeartbeats 400000 in
theorem index_ref (v : Value) (l : List ByteArray) (s : ByteArray) (w : World) (hv : SlS (Lt w.heap.size) w v l) :
    Calls Try.prog 59 #[v, .string s] w fun e w' => e = .returned (.int .i64 (atS l s)) ∧ w = w' := by
  obtain ⟨A, c, rfl, h1, h2, hv⟩ := hv.open_
  go_enter Try.func59, Try.ntmps59
  go_wp2_with fail
  go_loop [5] (fun i => ∃ k : Nat, k ≤ l.length ∧ i = .int .i64 k ∧ ∀ j y, j < k → l[j]? = some y → sameS s y = false) (fun i => l.length - (intOf i).toNat)
  case atStart => exact ⟨0, Nat.zero_le _, rfl, fun j _ h => absurd h (by omega)⟩
  case round =>
    obtain ⟨k, hk, rfl, hp⟩ := hrel
    have HP := Lib.hid hp
    clear hp
    by_cases hlt : k < l.length
    · obtain ⟨b, o, y, rfl, hD, hx, hf, hcell⟩ := hv.at_ hlt
      have HX := Lib.hid hx
      clear hx
      cases hq : (y.toList == s.toList) with
      | true =>
        have HE := Lib.hid (atS_hit l s k y HX.out hq HP.out)
        go_wp2_with fail
        go_ret
        exact ⟨ret_int HE.out.symm, rfl⟩
      | false =>
        have HQ : Hid (sameS s y = false) := hq
        go_wp2_with fail
        go_round
        case rel => exact ⟨k + 1, by omega, by go_num, fun j z hj hz => by
          by_cases e : j = k
          · subst e; rw [HX.out] at hz; injection hz with hz; rw [← hz]; exact HQ.out
          · exact HP.out j z (by omega) hz⟩
        case measure => simp [intOf]; omega
    · have HE := Lib.hid (atS_miss l s (fun q z hq hz => HP.out q z (by omega) hz))
      go_wp2_with fail
      go_ret
      exact ⟨ret_int HE.out.symm, rfl⟩

theorem sameS_iff (s y : ByteArray) : sameS s y = true ↔ y.data.toList = s.data.toList := by
  unfold sameS
  rw [Lib.toList_data, Lib.toList_data]
  simp
/-- The place of a text in a list of texts. -/
theorem atS_mem {ws : List Bs} {s : ByteArray} (h : s.data.toList ∈ ws) : atS (ws.map mkS) s = (atW ws s : Int) := by
  have hlt : ws.idxOf s.data.toList < ws.length := List.idxOf_lt_length_iff.2 h
  refine atS_hit _ _ (ws.idxOf s.data.toList) (mkS s.data.toList) ?_ ?_ ?_
  · rw [List.getElem?_map, List.getElem?_eq_getElem hlt, List.getElem_idxOf hlt]; rfl
  · rw [sameS_iff]; rfl
  · intro q z hq hz
    rw [List.getElem?_map, List.getElem?_eq_getElem (by omega)] at hz
    injection hz with hz
    rw [Bool.eq_false_iff]
    intro hs
    rw [sameS_iff, ← hz] at hs
    have h2 := List.not_of_lt_findIdx (xs := ws) (p := fun x => x == s.data.toList) (i := q) (by exact hq)
    simp at h2
    exact h2 hs
theorem atS_not {ws : List Bs} {s : ByteArray} (h : s.data.toList ∉ ws) : atS (ws.map mkS) s = -1 := by
  refine atS_miss _ _ fun q z hq hz => ?_
  rw [Bool.eq_false_iff]
  intro hs
  rw [sameS_iff] at hs
  rw [List.getElem?_map, Option.map_eq_some_iff] at hz
  obtain ⟨y, hy, rfl⟩ := hz
  exact h (by rw [← hs]; exact List.mem_of_getElem? hy)
end Go.Proofs.Ytjglmjdfndcmmaa
