/- Texts of this seat, merged. -/
import Derived.Deep.QuietTactic
import Derived.BigQuiet
import Derived.Test.YtjglmjdfndcmmaaZo01
import Derived.Test.YtjglmjdfndcmmaaZo02
import Derived.Test.YtjglmjdfndcmmaaZo03
import Derived.Test.YtjglmjdfndcmmaaZo04
import Derived.Test.YtjglmjdfndcmmaaZo14
set_option linter.all false
set_option linter.all false
namespace Go.Proofs.Ytjglmjdfndcmmaa
open Go.RowKit
def RetInsO (l : List Bs) (s : Bs) (w : World) (e : Ending) (w' : World) : Prop := ∃ v' r, e = .returned v' ∧ OwnS w' w.heap.size v' r ∧ InsRes l s r ∧ Below w.heap.size w w'
set_option maxHeartbeats 1000000 in
set_option maxRecDepth 100000 in
theorem insert_new (v : Value) (l : List Bs) (s : ByteArray) (w : World) (hv : SlS (Lt w.heap.size) w v (l.map mkS)) (ha : Asc l) (hnew : s.data.toList ∉ l) (hl : l.length ≤ 1000) :
    Calls Try.prog 91 #[v, .string s] w (RetInsO l s.data.toList w) := by
  have HA := Lib.hid ha
  have HNEW := Lib.hid hnew
  clear ha hnew
  have hv0 := hv
  obtain ⟨A, c, rfl, h1, h2, hv⟩ := hv.open_
  rw [List.length_map] at h1 hv hv0 ⊢
  go_enter Try.func91, Try.ntmps91
  go_wp2_with fail
  go_loopw [5, 6, 7] (fun ov dv i wr => ∃ (k : Nat) (d : Bool) (out : List Bs), k ≤ l.length ∧ i = .int .i64 k ∧ dv = .bool d ∧ InsInv l s.data.toList k d out ∧ OwnS wr w.heap.size ov out ∧ Below w.heap.size w wr) (fun _ _ i _ => l.length - (intOf i).toNat)
  case atStart => exact ⟨0, false, [], Nat.zero_le _, rfl, rfl, InsInv.start _ _, World.ownsRow_nil _ _ _ _, Below.refl _ _⟩
  case round =>
    obtain ⟨k, d, out, hk, rfl, rfl, hinv, hown, hbr⟩ := hrel
    have hol := hinv.len
    have HI := Lib.hid hinv
    clear hinv
    have hols : out.length ≤ 1001 := by
      cases d <;> simp at hol <;> omega
    clear hol
    have hszr := hbr.size
    by_cases hlt : k < l.length
    · obtain ⟨b, o, x, rfl, hD, hx, hf, hcw⟩ := hv.at_ hlt
      have hc := (hbr.cell (p := ⟨b, o + k, none⟩) hD).trans hcw
      have HCW := Lib.hid hcw
      clear hcw
      obtain ⟨y, hy, hxy⟩ : ∃ y, l[k]? = some y ∧ mkS y = x := by
        rw [List.getElem?_map, Option.map_eq_some_iff] at hx
        exact hx
      have HY := Lib.hid hy
      have HXY : Hid (x.toList = y ∧ Value.string x = encStr y) := by
        subst hxy
        exact ⟨mkS_toList y, rfl⟩
      have HSL : Hid (s.toList = s.data.toList) := Lib.toList_data s
      clear hx hy hxy
      by_cases he : y = s.data.toList
      · exact absurd (by rw [← he]; exact List.mem_of_getElem? HY.out) HNEW.out
      have hd : (x.toList == s.toList) = false := by rw [HXY.out.1, HSL.out]; simpa using he
      have HE := Lib.hid he
      clear he
      cases d
      · by_cases hls : y < s.data.toList
        · have hd2 : Op.bytesLess x.toList s.toList = true := by rw [HXY.out.1, HSL.out, less_eq]; simpa using hls
          have HN := Lib.hid (HI.out.plain HA.out HY.out hls)
          clear hls
          go_wp2_with (at_builtin; refine wpList_push appStrs rfl (.tmp 35) (.tmp 40) rfl _ [.string x] rfl (by simp [Value.oneCell']) _ out.length (out.map encStr) rfl hown rfl (by omega) hszr ?_; intro v' w' hown' hgr hat)
          go_roundw
          case rel =>
            refine ⟨k + 1, false, out ++ [y], by omega, by go_num, rfl, HN.out, ?_, hbr.trans (below_of_grown hgr hszr (fun g hg => (hown.lt g hg).1))⟩
            unfold OwnS
            rw [List.length_append, List.map_append, List.map_cons, List.map_nil, ← HXY.out.2]
            exact hown'
          case measure => simp [intOf]; omega
        · have hd2 : Op.bytesLess x.toList s.toList = false := by rw [HXY.out.1, HSL.out, less_eq]; simpa using hls
          have HN := Lib.hid (HI.out.ins HY.out (bs_total hls HE.out))
          clear hls
          go_upto_region 11 with (at_builtin; refine wpList_push appStrs rfl (.tmp 31) (.tmp 33) rfl _ [.string s] rfl (by simp [Value.oneCell']) _ out.length (out.map encStr) rfl hown rfl (by omega) hszr ?_; intro v1 w1 hown1 hgr1 hat1)
          have hb1 : Below w.heap.size w w1 := hbr.trans (below_of_grown hgr1 hszr (fun g hg => (hown.lt g hg).1))
          have hc1 : w1.cell? ⟨b, o + k, none⟩ = some (.string x) := (hb1.cell (p := ⟨b, o + k, none⟩) hD).trans HCW.out
          have hown1' : OwnS w1 w.heap.size v1 (out ++ [s.data.toList]) := by
            unfold OwnS
            rw [List.length_append, List.map_append]
            have e : [s.data.toList].map encStr = [Value.string s] := by
              show [Value.string (mkS s.data.toList)] = _
              rw [mkS_of]
            rw [e]
            exact hown1
          have hl1 : (out ++ [s.data.toList]).length < 10000000 := by rw [List.length_append]; simp; omega
          clear hc hgr1 hat1 hown hown1
          go_wp2_with (at_builtin; refine wpList_push appStrs rfl (.tmp 35) (.tmp 40) rfl _ [.string x] rfl (by simp [Value.oneCell']) _ (out ++ [s.data.toList]).length ((out ++ [s.data.toList]).map encStr) rfl hown1' rfl hl1 hb1.size ?_; intro v' w' hown' hgr hat)
          go_roundw
          case rel =>
            refine ⟨k + 1, true, out ++ [s.data.toList] ++ [y], by omega, by go_num, rfl, HN.out, ?_, hb1.trans (below_of_grown hgr hb1.size (fun g hg => (hown1'.lt g hg).1))⟩
            unfold OwnS
            rw [List.length_append, List.map_append (l₁ := out ++ [s.data.toList]), List.map_cons, List.map_nil, ← HXY.out.2]
            exact hown'
          case measure => simp [intOf]; omega
      · have HN := Lib.hid (HI.out.after HA.out HY.out)
        go_wp2_with (at_builtin; refine wpList_push appStrs rfl (.tmp 35) (.tmp 40) rfl _ [.string x] rfl (by simp [Value.oneCell']) _ out.length (out.map encStr) rfl hown rfl (by omega) hszr ?_; intro v' w' hown' hgr hat)
        go_roundw
        case rel =>
          refine ⟨k + 1, true, out ++ [y], by omega, by go_num, rfl, HN.out, ?_, hbr.trans (below_of_grown hgr hszr (fun g hg => (hown.lt g hg).1))⟩
          unfold OwnS
          rw [List.length_append, List.map_append, List.map_cons, List.map_nil, ← HXY.out.2]
          exact hown'
        case measure => simp [intOf]; omega
    · have hkl : k = l.length := by omega
      cases d
      · have HN := Lib.hid (HI.out.doneF hkl)
        go_wp2_with (at_builtin; refine wpList_push appStrs rfl (.tmp 44) (.tmp 46) rfl _ [.string s] rfl (by simp [Value.oneCell']) _ out.length (out.map encStr) rfl hown rfl (by omega) hszr ?_; intro v' w' hown' hgr hat)
        go_ret
        have hown1' : OwnS w' w.heap.size v' (out ++ [s.data.toList]) := by
          unfold OwnS
          rw [List.length_append, List.map_append]
          have e : [s.data.toList].map encStr = [Value.string s] := by
            show [Value.string (mkS s.data.toList)] = _
            rw [mkS_of]
          rw [e]
          exact hown'
        exact ⟨_, _, rfl, hown1', HN.out, hbr.trans (below_of_grown hgr hszr (fun g hg => (hown.lt g hg).1))⟩
      · have HN := Lib.hid (HI.out.doneT hkl)
        go_wp2_with fail
        go_ret
        exact ⟨_, _, rfl, hown, HN.out, hbr⟩
def sameS (s : ByteArray) (y : ByteArray) : Bool := y.toList == s.toList
theorem atS_hit (l : List ByteArray) (s : ByteArray) (j : Nat) (y : ByteArray) (hy : l[j]? = some y) (h : sameS s y = true) (hn : ∀ q z, q < j → l[q]? = some z → sameS s z = false) : atS l s = j := by
  have hj : j < l.length := by
    rcases Nat.lt_or_ge j l.length with h | h
    · exact h
    · rw [List.getElem?_eq_none h] at hy; cases hy
  have : l.findIdx? (fun y => y.toList == s.toList) = some j := by
    rw [List.findIdx?_eq_some_iff_getElem]
    refine ⟨hj, ?_, fun q hq => ?_⟩
    · rw [List.getElem?_eq_getElem hj] at hy; injection hy with hy; rw [hy]; exact h
    · have := hn q _ hq (List.getElem?_eq_getElem (by omega)); simpa [sameS] using this
  unfold atS; rw [this]
theorem atS_miss (l : List ByteArray) (s : ByteArray) (hn : ∀ q z, q < l.length → l[q]? = some z → sameS s z = false) : atS l s = -1 := by
  have : l.findIdx? (fun y => y.toList == s.toList) = none := by
    rw [List.findIdx?_eq_none_iff]
    intro x hx
    obtain ⟨q, hq, rfl⟩ := List.mem_iff_getElem.1 hx
    exact hn q _ hq (List.getElem?_eq_getElem hq)
  unfold atS; rw [this]
set_option maxHeartbeats 400000 in
theorem index_ref (v : Value) (l : List ByteArray) (s : ByteArray) (w : World) (hv : SlS (Lt w.heap.size) w v l) :
    Calls Try.prog 59 #[v, .string s] w fun e w' => e = .returned (.int .i64 (atS l s)) ∧ w = w' := by
  obtain ⟨A, c, rfl, h1, h2, hv⟩ := hv.open_
  go_enter Try.func59, Try.ntmps59
  go_wp2_with fail
  go_loop [5] (fun i => ∃ k : Nat, k ≤ l.length ∧ i = .int .i64 k ∧ ∀ j y, j < k → l[j]? = some y → sameS s y = false) (fun i => l.length - (intOf i).toNat)
  case atStart => exact ⟨0, Nat.zero_le _, rfl, fun j _ h => absurd h (by omega)⟩
  case round =>
    obtain ⟨k, hk, rfl, hp⟩ := hrel
    have HP := Lib.hid hp
    clear hp
    by_cases hlt : k < l.length
    · obtain ⟨b, o, y, rfl, hD, hx, hf, hcell⟩ := hv.at_ hlt
      have HX := Lib.hid hx
      clear hx
      cases hq : (y.toList == s.toList) with
      | true =>
        have HE := Lib.hid (atS_hit l s k y HX.out hq HP.out)
        go_wp2_with fail
        go_ret
        exact ⟨ret_int HE.out.symm, rfl⟩
      | false =>
        have HQ : Hid (sameS s y = false) := hq
        go_wp2_with fail
        go_round
        case rel => exact ⟨k + 1, by omega, by go_num, fun j z hj hz => by
          by_cases e : j = k
          · subst e; rw [HX.out] at hz; injection hz with hz; rw [← hz]; exact HQ.out
          · exact HP.out j z (by omega) hz⟩
        case measure => simp [intOf]; omega
    · have HE := Lib.hid (atS_miss l s (fun q z hq hz => HP.out q z (by omega) hz))
      go_wp2_with fail
      go_ret
      exact ⟨ret_int HE.out.symm, rfl⟩
theorem sameS_iff (s y : ByteArray) : sameS s y = true ↔ y.data.toList = s.data.toList := by
  unfold sameS
  rw [Lib.toList_data, Lib.toList_data]
  simp
theorem atS_mem {ws : List Bs} {s : ByteArray} (h : s.data.toList ∈ ws) : atS (ws.map mkS) s = (atW ws s : Int) := by
  have hlt : ws.idxOf s.data.toList < ws.length := List.idxOf_lt_length_iff.2 h
  refine atS_hit _ _ (ws.idxOf s.data.toList) (mkS s.data.toList) ?_ ?_ ?_
  · rw [List.getElem?_map, List.getElem?_eq_getElem hlt, List.getElem_idxOf hlt]; rfl
  · rw [sameS_iff]; rfl
  · intro q z hq hz
    rw [List.getElem?_map, List.getElem?_eq_getElem (by omega)] at hz
    injection hz with hz
    rw [Bool.eq_false_iff]
    intro hs
    rw [sameS_iff, ← hz] at hs
    have h2 := List.not_of_lt_findIdx (xs := ws) (p := fun x => x == s.data.toList) (i := q) (by exact hq)
    simp at h2
    exact h2 hs
theorem atS_not {ws : List Bs} {s : ByteArray} (h : s.data.toList ∉ ws) : atS (ws.map mkS) s = -1 := by
  refine atS_miss _ _ fun q z hq hz => ?_
  rw [Bool.eq_false_iff]
  intro hs
  rw [sameS_iff] at hs
  rw [List.getElem?_map, Option.map_eq_some_iff] at hz
  obtain ⟨y, hy, rfl⟩ := hz
  exact h (by rw [← hs]; exact List.mem_of_getElem? hy)
end Go.Proofs.Ytjglmjdfndcmmaa

set_option linter.all false
namespace Go.Proofs.Ytjglmjdfndcmmaa
open Go.RowKit
def colE (k : Nat) (e : Ev) : ByteArray := if k = 0 then e.cas else if k = 1 then e.act else e.res
def col (k : Nat) (es : List Ev) : List Bs := es.map fun e => (colE k e).data.toList
theorem col_len (k : Nat) (es : List Ev) : (col k es).length = es.length := List.length_map _
theorem names3_col {es : List Ev} {x : Bs} : x ∈ names3 es ↔ ∃ j, j < 3 ∧ x ∈ col j es := by
  unfold names3
  simp only [List.mem_append]
  constructor
  · rintro (h | h | h)
    · exact ⟨0, by omega, h⟩
    · exact ⟨1, by omega, h⟩
    · exact ⟨2, by omega, h⟩
  · rintro ⟨j, hj, h⟩
    rcases (show j = 0 ∨ j = 1 ∨ j = 2 by omega) with rfl | rfl | rfl
    · exact .inl h
    · exact .inr (.inl h)
    · exact .inr (.inr h)
theorem SlEv.fit {D : Nat → Prop} {w : World} {v : Value} {es : List Ev} (h : SlEv D w v es) : ∀ e ∈ es, FitEv e := by
  intro e he
  obtain ⟨A, c, rfl, _, _, h⟩ := h.open_
  obtain ⟨k, hk, rfl⟩ := List.mem_iff_getElem.1 he
  obtain ⟨_, _, z, _, _, _, hz, hf, _⟩ := SlEv.at_ h (k := k) hk
  rw [List.getElem?_eq_getElem hk] at hz
  injection hz with hz
  rw [hz]; exact hf
theorem col_fit {es : List Ev} (h : ∀ e ∈ es, FitEv e) {k : Nat} : ∀ x ∈ col k es, x.length ≤ maxLen := by
  intro x hx
  obtain ⟨e, he, rfl⟩ := List.mem_map.1 hx
  rw [size_eq]
  have := h e he
  unfold colE
  split
  · exact this.cas
  · split
    · exact this.act
    · exact this.res
structure DictInv (es : List Ev) (k i : Nat) (out : List Bs) : Prop where
  asc : Asc out
  mem : ∀ x, x ∈ out ↔ (∃ j, j < k ∧ x ∈ col j es) ∨ x ∈ (col k es).take i
  len : out.length ≤ k * es.length + i
theorem DictInv.start (es : List Ev) : DictInv es 0 0 [] := ⟨by simp [Asc], by simp, by simp⟩
theorem DictInv.next {es : List Ev} {k : Nat} {out : List Bs} (h : DictInv es k es.length out) : DictInv es (k + 1) 0 out := by
  refine ⟨h.asc, fun x => ?_, by have := h.len; rw [Nat.add_mul]; omega⟩
  rw [h.mem x, List.take_of_length_le (by rw [col_len]; exact Nat.le_refl _)]
  constructor
  · rintro (⟨j, hj, hx⟩ | hx)
    · exact .inl ⟨j, by omega, hx⟩
    · exact .inl ⟨k, by omega, hx⟩
  · rintro (⟨j, hj, hx⟩ | hx)
    · rcases (show j < k ∨ j = k by omega) with h1 | rfl
      · exact .inl ⟨j, h1, hx⟩
      · exact .inr hx
    · simp at hx
theorem DictInv.there {es : List Ev} {k i : Nat} {out : List Bs} {s : Bs} (h : DictInv es k i out) (hs : (col k es)[i]? = some s) (hm : s ∈ out) : DictInv es k (i + 1) out := by
  refine ⟨h.asc, fun x => ?_, by have := h.len; omega⟩
  rw [take_next hs, List.mem_append, List.mem_singleton, ← or_assoc, ← h.mem x]
  exact ⟨.inl, fun h' => by rcases h' with h' | rfl; exact h'; exact hm⟩
theorem DictInv.new {es : List Ev} {k i : Nat} {out r : List Bs} {s : Bs} (h : DictInv es k i out) (hs : (col k es)[i]? = some s) (hr : InsRes out s r) : DictInv es k (i + 1) r := by
  refine ⟨hr.1, fun x => ?_, by have := h.len; have := hr.2.2; omega⟩
  rw [take_next hs, List.mem_append, List.mem_singleton, ← or_assoc, ← h.mem x]
  exact hr.2.1 x
theorem DictInv.done {es : List Ev} {out : List Bs} (h : DictInv es 3 0 out) : out = words es := by
  refine setB_unique h.asc fun x => ?_
  rw [h.mem x, names3_col]
  simp
theorem DictInv.fit {es : List Ev} {k i : Nat} {out : List Bs} (h : DictInv es k i out) (hf : ∀ e ∈ es, FitEv e) : ∀ x ∈ out, x.length ≤ maxLen := by
  intro x hx
  rcases (h.mem x).1 hx with ⟨j, _, hx⟩ | hx
  · exact col_fit hf x hx
  · exact col_fit hf x (List.mem_of_mem_take hx)
-- WALKS
set_option maxHeartbeats 1000000 in
set_option maxRecDepth 100000 in
theorem column0 (es : List Ev) (v : Value) (w : World) (hs : SlEv (Lt w.heap.size) w v es) (hl : es.length ≤ 1000) :
    Calls Try.prog 58 #[v, .int .i64 0] w fun e w' => ∃ v', e = .returned v' ∧ OwnS w' w.heap.size v' (col 0 es) ∧ Below w.heap.size w w' := by
  obtain ⟨A, c, rfl, h1, h2, hs⟩ := hs.open_
  have HS := Lib.hid hs
  clear hs
  go_enter Try.func58, Try.ntmps58
  go_wp2_with fail
  go_loopw [5, 6] (fun ov iv wr => ∃ i : Nat, iv = .int .i64 (i : Int) ∧ i ≤ es.length ∧ Hid (OwnS wr w.heap.size ov ((col 0 es).take i)) ∧ Below w.heap.size w wr) (fun _ iv _ => es.length - (intOf iv).toNat)
  case atStart => exact ⟨0, rfl, Nat.zero_le _, Lib.hid (World.ownsRow_nil _ _ _ _), Below.refl _ _⟩
  case round =>
    obtain ⟨i, rfl, hi, HO, hbr⟩ := hrel
    have hszr := hbr.size
    by_cases hlt : i < es.length
    · obtain ⟨b, o, e, dv, rfl, hD, hx, hff, hdv, f0, f1, f2, f3, f4, f5⟩ := SlEv.at_ HS.out hlt
      have c0 := (hbr.cell (p := ⟨b, o + i * 6, none⟩) hD).trans f0
      have hcol : (col 0 es)[i]? = some e.cas.data.toList := by unfold col; rw [List.getElem?_map, hx]; rfl
      have HT := Lib.hid (take_next hcol)
      have hlen : ((col 0 es).take i).length < 10000000 := by rw [List.length_take]; omega
      have HBR := Lib.hid hbr
      clear f0 f1 f2 f3 f4 f5 hff hdv hx hcol hbr
      go_wp2_with (at_builtin; refine wpList_push appStrs rfl (.tmp 24) (.tmp 30) rfl _ [.string e.cas] rfl (by simp [Value.oneCell']) _ ((col 0 es).take i).length (((col 0 es).take i).map encStr) rfl HO.out rfl hlen hszr ?_; intro v' w' hown' hgr hat)
      go_roundw
      case rel =>
        refine ⟨i + 1, by go_num, by omega, Lib.hid ?_, HBR.out.trans (below_of_grown hgr hszr (fun g hg => (World.ownsRow.lt HO.out g hg).1))⟩
        rw [HT.out]
        unfold OwnS
        rw [List.length_append, List.map_append]
        have e2 : [e.cas.data.toList].map encStr = [Value.string e.cas] := by
          show [Value.string (mkS e.cas.data.toList)] = _
          rw [mkS_of]
        rw [e2]
        exact hown'
      case measure => simp [intOf]; omega
    · obtain rfl : i = es.length := by omega
      go_wp2_with fail
      go_ret
      refine ⟨_, rfl, ?_, hbr⟩
      have := HO.out
      rw [List.take_of_length_le (by rw [col_len]; exact Nat.le_refl _)] at this
      exact this
set_option maxHeartbeats 1000000 in
set_option maxRecDepth 100000 in
theorem column1 (es : List Ev) (v : Value) (w : World) (hs : SlEv (Lt w.heap.size) w v es) (hl : es.length ≤ 1000) :
    Calls Try.prog 58 #[v, .int .i64 1] w fun e w' => ∃ v', e = .returned v' ∧ OwnS w' w.heap.size v' (col 1 es) ∧ Below w.heap.size w w' := by
  obtain ⟨A, c, rfl, h1, h2, hs⟩ := hs.open_
  have HS := Lib.hid hs
  clear hs
  go_enter Try.func58, Try.ntmps58
  go_wp2_with fail
  go_loopw [5, 6] (fun ov iv wr => ∃ i : Nat, iv = .int .i64 (i : Int) ∧ i ≤ es.length ∧ Hid (OwnS wr w.heap.size ov ((col 1 es).take i)) ∧ Below w.heap.size w wr) (fun _ iv _ => es.length - (intOf iv).toNat)
  case atStart => exact ⟨0, rfl, Nat.zero_le _, Lib.hid (World.ownsRow_nil _ _ _ _), Below.refl _ _⟩
  case round =>
    obtain ⟨i, rfl, hi, HO, hbr⟩ := hrel
    have hszr := hbr.size
    by_cases hlt : i < es.length
    · obtain ⟨b, o, e, dv, rfl, hD, hx, hff, hdv, f0, f1, f2, f3, f4, f5⟩ := SlEv.at_ HS.out hlt
      have c0 := (hbr.cell (p := ⟨b, o + i * 6 + 1, none⟩) hD).trans f1
      have hcol : (col 1 es)[i]? = some e.act.data.toList := by unfold col; rw [List.getElem?_map, hx]; rfl
      have HT := Lib.hid (take_next hcol)
      have hlen : ((col 1 es).take i).length < 10000000 := by rw [List.length_take]; omega
      have HBR := Lib.hid hbr
      clear f0 f1 f2 f3 f4 f5 hff hdv hx hcol hbr
      go_wp2_with (at_builtin; refine wpList_push appStrs rfl (.tmp 34) (.tmp 40) rfl _ [.string e.act] rfl (by simp [Value.oneCell']) _ ((col 1 es).take i).length (((col 1 es).take i).map encStr) rfl HO.out rfl hlen hszr ?_; intro v' w' hown' hgr hat)
      go_roundw
      case rel =>
        refine ⟨i + 1, by go_num, by omega, Lib.hid ?_, HBR.out.trans (below_of_grown hgr hszr (fun g hg => (World.ownsRow.lt HO.out g hg).1))⟩
        rw [HT.out]
        unfold OwnS
        rw [List.length_append, List.map_append]
        have e2 : [e.act.data.toList].map encStr = [Value.string e.act] := by
          show [Value.string (mkS e.act.data.toList)] = _
          rw [mkS_of]
        rw [e2]
        exact hown'
      case measure => simp [intOf]; omega
    · obtain rfl : i = es.length := by omega
      go_wp2_with fail
      go_ret
      refine ⟨_, rfl, ?_, hbr⟩
      have := HO.out
      rw [List.take_of_length_le (by rw [col_len]; exact Nat.le_refl _)] at this
      exact this
set_option maxHeartbeats 1000000 in
set_option maxRecDepth 100000 in
theorem column2 (es : List Ev) (v : Value) (w : World) (hs : SlEv (Lt w.heap.size) w v es) (hl : es.length ≤ 1000) :
    Calls Try.prog 58 #[v, .int .i64 2] w fun e w' => ∃ v', e = .returned v' ∧ OwnS w' w.heap.size v' (col 2 es) ∧ Below w.heap.size w w' := by
  obtain ⟨A, c, rfl, h1, h2, hs⟩ := hs.open_
  have HS := Lib.hid hs
  clear hs
  go_enter Try.func58, Try.ntmps58
  go_wp2_with fail
  go_loopw [5, 6] (fun ov iv wr => ∃ i : Nat, iv = .int .i64 (i : Int) ∧ i ≤ es.length ∧ Hid (OwnS wr w.heap.size ov ((col 2 es).take i)) ∧ Below w.heap.size w wr) (fun _ iv _ => es.length - (intOf iv).toNat)
  case atStart => exact ⟨0, rfl, Nat.zero_le _, Lib.hid (World.ownsRow_nil _ _ _ _), Below.refl _ _⟩
  case round =>
    obtain ⟨i, rfl, hi, HO, hbr⟩ := hrel
    have hszr := hbr.size
    by_cases hlt : i < es.length
    · obtain ⟨b, o, e, dv, rfl, hD, hx, hff, hdv, f0, f1, f2, f3, f4, f5⟩ := SlEv.at_ HS.out hlt
      have c0 := (hbr.cell (p := ⟨b, o + i * 6 + 2, none⟩) hD).trans f2
      have hcol : (col 2 es)[i]? = some e.res.data.toList := by unfold col; rw [List.getElem?_map, hx]; rfl
      have HT := Lib.hid (take_next hcol)
      have hlen : ((col 2 es).take i).length < 10000000 := by rw [List.length_take]; omega
      have HBR := Lib.hid hbr
      clear f0 f1 f2 f3 f4 f5 hff hdv hx hcol hbr
      go_wp2_with (at_builtin; refine wpList_push appStrs rfl (.tmp 14) (.tmp 20) rfl _ [.string e.res] rfl (by simp [Value.oneCell']) _ ((col 2 es).take i).length (((col 2 es).take i).map encStr) rfl HO.out rfl hlen hszr ?_; intro v' w' hown' hgr hat)
      go_roundw
      case rel =>
        refine ⟨i + 1, by go_num, by omega, Lib.hid ?_, HBR.out.trans (below_of_grown hgr hszr (fun g hg => (World.ownsRow.lt HO.out g hg).1))⟩
        rw [HT.out]
        unfold OwnS
        rw [List.length_append, List.map_append]
        have e2 : [e.res.data.toList].map encStr = [Value.string e.res] := by
          show [Value.string (mkS e.res.data.toList)] = _
          rw [mkS_of]
        rw [e2]
        exact hown'
      case measure => simp [intOf]; omega
    · obtain rfl : i = es.length := by omega
      go_wp2_with fail
      go_ret
      refine ⟨_, rfl, ?_, hbr⟩
      have := HO.out
      rw [List.take_of_length_le (by rw [col_len]; exact Nat.le_refl _)] at this
      exact this
theorem column_ref (k : Nat) (es : List Ev) (v : Value) (w : World) (hk : k < 3) (hs : SlEv (Lt w.heap.size) w v es) (hl : es.length ≤ 1000) :
    Calls Try.prog 58 #[v, .int .i64 (k : Int)] w fun e w' => ∃ v', e = .returned v' ∧ OwnS w' w.heap.size v' (col k es) ∧ Below w.heap.size w w' := by
  rcases (show k = 0 ∨ k = 1 ∨ k = 2 by omega) with rfl | rfl | rfl
  · exact column0 es v w hs hl
  · exact column1 es v w hs hl
  · exact column2 es v w hs hl
theorem OwnS.now {w w' : World} {base : Nat} {v : Value} {ss : List Bs} (h : OwnS w base v ss) (hb : Below w.heap.size w w') : OwnS w' base v ss := own_now h hb
set_option maxHeartbeats 2000000 in
set_option maxRecDepth 100000 in
theorem dict_ref (es : List Ev) (v : Value) (w : World) (hs : SlEv (Lt w.heap.size) w v es) (hl : es.length ≤ 100) :
    Calls Try.prog 56 #[v] w fun e w' => ∃ v', e = .returned v' ∧ OwnS w' w.heap.size v' (words es) ∧ Below w.heap.size w w' := by
  have HS := Lib.hid hs
  have HFT := Lib.hid (SlEv.fit hs)
  clear hs
  go_enter Try.func56, Try.ntmps56
  go_wp2_with fail
  go_loopw [3, 4] (fun ov kv wr => ∃ (k : Nat) (out : List Bs), kv = .int .i64 (k : Int) ∧ k ≤ 3 ∧ Hid (DictInv es k 0 out) ∧ Hid (OwnS wr w.heap.size ov out) ∧ Below w.heap.size w wr) (fun _ kv _ => 3 - (intOf kv).toNat)
  case atStart => exact ⟨0, [], rfl, by omega, Lib.hid (DictInv.start es), Lib.hid (World.ownsRow_nil _ _ _ _), Below.refl _ _⟩
  case round =>
    obtain ⟨k, out, rfl, hk, HI, HO, hbr⟩ := hrel
    obtain ⟨wo, rfl⟩ : ∃ wo, wo = wr := ⟨wr, rfl⟩
    have HBR := Lib.hid hbr
    have hszo := hbr.size
    clear hbr
    by_cases hlt : k < 3
    · have HC := Lib.hid (column_ref k es v wo hlt (HS.out.now HBR.out) (by omega))
      go_wp2_with fail
      (with_reducible refine HC.out.mono ?_)
      rintro x w1 ⟨v1, rfl, hc1, hb1⟩
      obtain ⟨Av, cv, rfl, hv1, hv2, hsv⟩ := SlS.open_ (hc1.slS (col_fit HFT.out))
      rw [List.length_map, col_len] at hsv hv1 ⊢
      have HSV := Lib.hid hsv
      have HO1 := Lib.hid (HO.out.now hb1)
      have HB1 := Lib.hid hb1
      have hsz1 := hb1.size
      clear hsv hc1 hb1 HO HC
      go_wp2_with fail
      go_loopw [3, 6] (fun ov iv wr => ∃ (i : Nat) (out : List Bs), iv = .int .i64 (i : Int) ∧ i ≤ es.length ∧ Hid (DictInv es k i out) ∧ Hid (OwnS wr w.heap.size ov out) ∧ Below w1.heap.size w1 wr) (fun _ iv _ => es.length - (intOf iv).toNat)
      case atStart => exact ⟨0, out, rfl, Nat.zero_le _, HI, HO1, Below.refl _ _⟩
      case round =>
        obtain ⟨i, out, rfl, hi, HI, HO, hbr⟩ := hrel
        obtain ⟨w2, rfl⟩ : ∃ w2, w2 = wr := ⟨wr, rfl⟩
        have hszr := hbr.size
        by_cases hlt : i < es.length
        · obtain ⟨b, o, x, rfl, hD, hx, hxs, hc⟩ := SlS.at_ (k := i) HSV.out hlt
          obtain ⟨s, hs, rfl⟩ : ∃ s, (col k es)[i]? = some s ∧ mkS s = x := by
            rw [List.getElem?_map, Option.map_eq_some_iff] at hx
            exact hx
          replace hc := (hbr.cell (p := ⟨b, o + i, none⟩) hD).trans hc
          have HX := Lib.hid hs
          have HBr := Lib.hid hbr
          have hso := HO.out.slS (HI.out.fit HFT.out)
          have hol : out.length ≤ 1000 := by
            have := HI.out.len
            have : k * es.length ≤ 3 * 100 := Nat.mul_le_mul (by omega) hl
            omega
          have HC := Lib.hid (index_ref _ _ (mkS s) _ hso)
          by_cases hm : s ∈ out
          · have ha := atS_mem (ws := out) (s := mkS s) hm
            rw [ha] at HC
            have z1 : decide (((atW out (mkS s) : Nat) : Int) < 0) = false := by simp
            have HN := Lib.hid (HI.out.there hs hm)
            generalize atW out (mkS s) = z at *
            clear ha hs hx hso hm hbr
            go_wp2_with fail
            (with_reducible refine HC.out.mono ?_)
            rintro x w3 ⟨rfl, rfl⟩
            go_wp2_with fail
            go_roundw
            case rel => exact ⟨i + 1, out, by go_num, by omega, HN, HO, HBr.out⟩
            case measure => simp [intOf]; omega
          · have ha := atS_not (ws := out) (s := mkS s) hm
            rw [ha] at HC
            have HCI := Lib.hid (insert_new _ out (mkS s) w2 hso HI.out.asc hm hol)
            clear ha hs hx hso hm hbr
            go_wp2_with fail
            (with_reducible refine HC.out.mono ?_)
            rintro x w3 ⟨rfl, rfl⟩
            go_wp2_with fail
            (with_reducible refine HCI.out.mono ?_)
            rintro x w4 ⟨v4, r, rfl, hr, hir, hb4⟩
            go_wp2_with fail
            go_roundw
            case rel => exact ⟨i + 1, r, by go_num, by omega, Lib.hid (HI.out.new HX.out hir), Lib.hid (ownsRow_base_a hr (by omega)), HBr.out.trans (hb4.mono hszr)⟩
            case measure => simp [intOf]; omega
        · obtain rfl : i = es.length := by omega
          go_wp2_with fail
          go_roundw
          case rel => exact ⟨k + 1, out, by go_num, by omega, Lib.hid HI.out.next, HO, HBR.out.trans ((HB1.out.trans (hbr.mono hsz1)).mono hszo)⟩
          case measure => simp [intOf]; omega
    · obtain rfl : k = 3 := by omega
      go_wp2_with fail
      go_ret
      refine ⟨_, rfl, ?_, HBR.out⟩
      rw [← HI.out.done]
      exact HO.out
end Go.Proofs.Ytjglmjdfndcmmaa

set_option linter.all false
namespace Go.Proofs.Ytjglmjdfndcmmaa
open Go.RowKit
theorem num_high' (m : Nat) : (m : Int) % 128 + 128 = ((UInt8.ofNat (m % 128 + 128)).toNat : Int) := by
  rw [UInt8.toNat_ofNat']; omega
set_option maxHeartbeats 1000000 in
set_option maxRecDepth 100000 in
theorem numR (n base : Nat) (v : Value) (l : List UInt8) (w : World) (hn : n < 9223372036854775808) (hown : OwnC w base v l) (hb : base ≤ w.heap.size) (hl : l.length + (arNum n).length ≤ 9000000) :
    Calls Try.prog 33 #[v, .int .i64 (n : Int)] w (RetAdd base w v (l ++ arNum n)) := by
  have HH := Lib.hid (Adds.refl hown)
  clear hown
  go_enter Try.func33, Try.ntmps33
  go_wp2_with fail
  go_loopw [0, 1] (fun sv nv wr => ∃ (m : Nat) (d : List UInt8), nv = .int .i64 (m : Int) ∧ m ≤ n ∧ arNum n = d ++ arNum m ∧ Adds base w v (l ++ d) wr sv) (fun _ nv _ => (intOf nv).toNat)
  case atStart => exact ⟨n, [], rfl, Nat.le_refl _, rfl, by simpa using HH.out⟩
  case round =>
    obtain ⟨m, d, rfl, hm, he, ha⟩ := hrel
    have HE := Lib.hid he
    have hp := arNum_pos m
    rw [he, List.length_append] at hl
    have hown := ha.own
    have hsz := ha.grown.size
    have hlen : (l ++ d).length < 10000000 := by rw [List.length_append]; omega
    have HA := Lib.hid ha
    clear he ha hl hp
    by_cases h : m < 128
    · have HZ := Lib.hid (num_low h)
      have HX := Lib.hid (arNum_one h)
      go_wp2_with (at_builtin; refine wpList_pushC rfl (.tmp 16) (.tmp 19) rfl (UInt8.ofNat m) _ HZ.out rfl hown rfl hlen (by omega) ?_; intro v' w' hA)
      go_ret
      refine ⟨_, rfl, ?_⟩
      have := HA.out.trans hA
      rw [List.append_assoc] at this
      rw [HE.out, HX.out]
      exact this
    · have HZ := Lib.hid (num_high' m)
      have HX := Lib.hid (arNum_more h)
      go_wp2_with (at_builtin; refine wpList_pushC rfl (.tmp 7) (.tmp 12) rfl (UInt8.ofNat (m % 128 + 128)) _ HZ.out rfl hown rfl hlen (by omega) ?_; intro v' w' hA)
      go_roundw
      case rel =>
        refine ⟨m / 128, d ++ [UInt8.ofNat (m % 128 + 128)], by go_num, by omega, ?_, ?_⟩
        · rw [HE.out, HX.out]; simp
        · rw [← List.append_assoc]
          exact HA.out.trans hA
      case measure => simp [intOf]; omega
set_option maxHeartbeats 1000000 in
set_option maxRecDepth 100000 in
theorem textR (s : ByteArray) (base : Nat) (v : Value) (l : List UInt8) (w : World) (hs : s.size < 1000000) (hown : OwnC w base v l) (hb : base ≤ w.heap.size) (hl : l.length + (arText s.data.toList).length ≤ 9000000) :
    Calls Try.prog 57 #[v, .string s] w (RetAdd base w v (l ++ arText s.data.toList)) := by
  have hz := size_eq s
  have hX : arText s.data.toList = arNum s.size ++ s.data.toList := by unfold arText; rw [hz]
  have hle : (arText s.data.toList).length = (arNum s.size).length + s.size := by rw [hX, List.length_append, hz]
  rw [hle] at hl
  have HC := Lib.hid (numR s.size base v l w (by omega) hown hb (by omega))
  have HX := Lib.hid hX
  have hll : (l ++ arNum s.size).length + s.size ≤ 9000000 := by rw [List.length_append]; omega
  have HZ := Lib.hid hz
  clear hX hle hown hl hz
  go_enter Try.func57, Try.ntmps57
  go_wp2_with fail
  (with_reducible refine HC.out.mono ?_)
  rintro e w1 ⟨v1, rfl, hA⟩
  have HA := Lib.hid hA
  have hsz := hA.grown.size
  clear hA
  go_wp2_with fail
  go_loopw [0, 5] (fun sv iv wr => ∃ i : Nat, iv = .int .i64 (i : Int) ∧ i ≤ s.size ∧ Hid (Adds base w v ((l ++ arNum s.size) ++ s.data.toList.take i) wr sv)) (fun _ iv _ => s.size - (intOf iv).toNat)
  case atStart => exact ⟨0, rfl, Nat.zero_le _, Lib.hid (by simpa using HA.out)⟩
  case round =>
    obtain ⟨i, rfl, hi, ha⟩ := hrel
    have hsz2 := ha.out.grown.size
    by_cases hlt : i < s.size
    · have hown := ha.out.own
      have hlen : ((l ++ arNum s.size) ++ s.data.toList.take i).length < 10000000 := by
        rw [List.length_append, List.length_take]; omega
      have hget : s.data.toList[i]? = some (s.data[i]'(by have := HZ.out; simpa using hlt)) := by simp
      go_wp2_with (at_builtin; refine wpList_pushC rfl (.tmp 16) (.tmp 20) rfl (s.data[i]'(by have := HZ.out; simpa using hlt)) _ rfl rfl hown rfl hlen (by omega) ?_; intro v' w' hA)
      go_roundw
      case rel =>
        refine ⟨i + 1, by go_num, by omega, Lib.hid ?_⟩
        have := ha.out.trans hA
        rw [List.append_assoc] at this
        rw [List.take_add_one, hget]
        exact this
      case measure => simp [intOf]; omega
    · obtain rfl : i = s.size := by omega
      go_wp2_with fail
      go_ret
      refine ⟨_, rfl, ?_⟩
      rw [HX.out, ← List.append_assoc]
      have := ha.out
      rw [← HZ.out, List.take_length] at this
      rw [HZ.out] at this
      exact this
set_option maxHeartbeats 1000000 in
set_option maxRecDepth 100000 in
theorem valueR (x : Val) (base : Nat) (v : Value) (l : List UInt8) (w : World) (hv : validV x = true) (hown : OwnC w base v l) (hb : base ≤ w.heap.size) (hl : l.length + (arVal x).length ≤ 9000000) :
    Calls Try.prog 61 #[v, valV x] w (RetAdd base w v (l ++ arVal x)) := by
  have hN : ∀ c : Array Value, OwnC (w.alloc (.cells c 62)) base v l := fun c => hown.now (bone w _)
  unfold valV
  rcases val_parts hv with ⟨hk, hn, -⟩ | ⟨hk, h1, h2, -⟩ | ⟨hk, -, hs, -⟩
  · have hX := arVal1 hk
    rw [hX, List.length_append] at hl
    have HX := Lib.hid hX
    clear hX
    obtain ⟨m, hm⟩ : ∃ m : Nat, x.n = m := ⟨x.n.toNat, by omega⟩
    have hm2 : x.n.toNat = m := by omega
    have hm1 : m < 2 := by omega
    rw [hk, hm]
    rw [hm2] at HX hl
    have hc := numR 1 base v l _ (by omega) (hN #[.int .i64 1, .int .i64 m, .string x.s]) (by simp; omega) (by omega)
    rw [show ((1 : Nat) : Int) = 1 from rfl] at hc
    have HC := Lib.hid hc
    have hB := Blk.new w 62 #[.int .i64 1, .int .i64 m, .string x.s]
    have hc3 := hB.c3
    have H0 := Lib.hid (hN #[.int .i64 1, .int .i64 m, .string x.s])
    clear hc hN hown hk hm hm2 hn hv
    go_enter Try.func61, Try.ntmps61
    go_wp2_with fail
    (with_reducible refine HC.out.mono ?_)
    rintro e w1 ⟨v1, rfl, hA⟩
    have hB1 := hA.keep H0.out hB (by decide)
    have hc31 := hB1.c3
    have HC2 := Lib.hid (numR m base v1 (l ++ arNum 1) w1 (by omega) hA.own (by have := hA.grown.size; simp at this; omega) (by rw [List.length_append]; omega))
    clear hB hB1 hc3
    go_wp2_with fail
    (with_reducible refine HC2.out.mono ?_)
    rintro e w2 ⟨v2, rfl, hA2⟩
    go_wp2_with fail
    go_ret
    refine ⟨_, rfl, ?_⟩
    rw [HX.out, ← List.append_assoc]
    exact Adds.pre (bone w _) (hA.trans hA2)
  · have hX := arVal2 hk
    rw [hX, List.length_append] at hl
    have HX := Lib.hid hX
    clear hX
    rw [hk]
    have hc := numR 2 base v l _ (by omega) (hN #[.int .i64 2, .int .i64 x.n, .string x.s]) (by simp; omega) (by omega)
    rw [show ((2 : Nat) : Int) = 2 from rfl] at hc
    have HC := Lib.hid hc
    have hz : zigZ x.n < 9223372036854775808 := by unfold zigZ; split <;> omega
    have hB := Blk.new w 62 #[.int .i64 2, .int .i64 x.n, .string x.s]
    obtain ⟨hc1, hc2, hc3⟩ := hB.c3
    have H0 := Lib.hid (hN #[.int .i64 2, .int .i64 x.n, .string x.s])
    by_cases hneg : x.n < 0
    · have HZ : Hid ((zigZ x.n : Int) = -(2 * x.n) - 1) := by show _ = _; unfold zigZ; rw [if_pos hneg]; omega
      have w1 : IntKind.i64.wrap (2 * x.n) = 2 * x.n := i64wrap (by omega)
      have w2 : IntKind.i64.wrap (0 - 2 * x.n) = 0 - 2 * x.n := i64wrap (by omega)
      have w3 : IntKind.i64.wrap (0 - 2 * x.n - 1) = 0 - 2 * x.n - 1 := i64wrap (by omega)
      clear hc hN hown hk hv
      generalize zigZ x.n = z at *
      go_enter Try.func61, Try.ntmps61
      go_wp2_with fail
      (with_reducible refine HC.out.mono ?_)
      rintro e w1 ⟨v1, rfl, hA⟩
      have hB1 := hA.keep H0.out hB (by decide)
      obtain ⟨hc11, hc21, hc31⟩ := hB1.c3
      have HC2 := Lib.hid (numR z base v1 (l ++ arNum 2) w1 hz hA.own (by have := hA.grown.size; simp at this; omega) (by rw [List.length_append]; omega))
      rw [HZ.out] at HC2
      clear hB hB1 hc1 hc2 hc3
      go_wp2_with fail
      (with_reducible refine HC2.out.mono ?_)
      rintro e w2 ⟨v2, rfl, hA2⟩
      go_wp2_with fail
      go_ret
      refine ⟨_, rfl, ?_⟩
      rw [HX.out, ← List.append_assoc]
      exact Adds.pre (bone w _) (hA.trans hA2)
    · have HZ : Hid ((zigZ x.n : Int) = 2 * x.n) := by show _ = _; unfold zigZ; rw [if_neg hneg]; omega
      clear hc hN hown hk hv
      generalize zigZ x.n = z at *
      go_enter Try.func61, Try.ntmps61
      go_wp2_with fail
      (with_reducible refine HC.out.mono ?_)
      rintro e w1 ⟨v1, rfl, hA⟩
      have hB1 := hA.keep H0.out hB (by decide)
      obtain ⟨hc11, hc21, hc31⟩ := hB1.c3
      have HC2 := Lib.hid (numR z base v1 (l ++ arNum 2) w1 hz hA.own (by have := hA.grown.size; simp at this; omega) (by rw [List.length_append]; omega))
      rw [HZ.out] at HC2
      clear hB hB1 hc1 hc2 hc3
      go_wp2_with fail
      (with_reducible refine HC2.out.mono ?_)
      rintro e w2 ⟨v2, rfl, hA2⟩
      go_wp2_with fail
      go_ret
      refine ⟨_, rfl, ?_⟩
      rw [HX.out, ← List.append_assoc]
      exact Adds.pre (bone w _) (hA.trans hA2)
  · have hX := arVal3 hk
    rw [hX, List.length_append] at hl
    have HX := Lib.hid hX
    clear hX
    rw [hk]
    have hc := numR 3 base v l _ (by omega) (hN #[.int .i64 3, .int .i64 x.n, .string x.s]) (by simp; omega) (by omega)
    rw [show ((3 : Nat) : Int) = 3 from rfl] at hc
    have HC := Lib.hid hc
    have hB := Blk.new w 62 #[.int .i64 3, .int .i64 x.n, .string x.s]
    have hc3 := hB.c3
    have H0 := Lib.hid (hN #[.int .i64 3, .int .i64 x.n, .string x.s])
    clear hc hN hown hk hv
    go_enter Try.func61, Try.ntmps61
    go_wp2_with fail
    (with_reducible refine HC.out.mono ?_)
    rintro e w1 ⟨v1, rfl, hA⟩
    have hB1 := hA.keep H0.out hB (by decide)
    have hc31 := hB1.c3
    have HC2 := Lib.hid (textR x.s base v1 (l ++ arNum 3) w1 (by omega) hA.own (by have := hA.grown.size; simp at this; omega) (by rw [List.length_append]; omega))
    clear hB hB1 hc3
    go_wp2_with fail
    (with_reducible refine HC2.out.mono ?_)
    rintro e w2 ⟨v2, rfl, hA2⟩
    go_wp2_with fail
    go_ret
    refine ⟨_, rfl, ?_⟩
    rw [HX.out, ← List.append_assoc]
    exact Adds.pre (bone w _) (hA.trans hA2)
end Go.Proofs.Ytjglmjdfndcmmaa
