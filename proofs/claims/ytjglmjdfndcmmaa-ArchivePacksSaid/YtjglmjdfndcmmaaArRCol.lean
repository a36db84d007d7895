/- casebookref16.column and dictionary. -/
import Derived.Test.YtjglmjdfndcmmaaArIns
import Derived.Test.YtjglmjdfndcmmaaArBlock
set_option linter.all false
namespace Go.Proofs.Ytjglmjdfndcmmaa
open Go.RowKit

def colE (k : Nat) (e : Ev) : ByteArray := if k = 0 then e.cas else if k = 1 then e.act else e.res
def col (k : Nat) (es : List Ev) : List Bs := es.map fun e => (colE k e).data.toList
theorem col_len (k : Nat) (es : List Ev) : (col k es).length = es.length := List.length_map _
theorem names3_col {es : List Ev} {x : Bs} : x ∈ names3 es ↔ ∃ j, j < 3 ∧ x ∈ col j es := by
  unfold names3
  simp only [List.mem_append]
  constructor
  · rintro (h | h | h)
    · exact ⟨0, by omega, h⟩
    · exact ⟨1, by omega, h⟩
    · exact ⟨2, by omega, h⟩
  · rintro ⟨j, hj, h⟩
    rcases (show j = 0 ∨ j = 1 ∨ j = 2 by omega) with rfl | rfl | rfl
    · exact .inl h
    · exact .inr (.inl h)
    · exact .inr (.inr h)
theorem SlEv.fit {D : Nat → Prop} {w : World} {v : Value} {es : List Ev} (h : SlEv D w v es) : ∀ e ∈ es, FitEv e := by
  intro e he
  obtain ⟨A, c, rfl, _, _, h⟩ := h.open_
  obtain ⟨k, hk, rfl⟩ := List.mem_iff_getElem.1 he
  obtain ⟨_, _, z, _, _, _, hz, hf, _⟩ := SlEv.at_ h (k := k) hk
  rw [List.getElem?_eq_getElem hk] at hz
  injection hz with hz
  rw [hz]; exact hf
theorem col_fit {es : List Ev} (h : ∀ e ∈ es, FitEv e) {k : Nat} : ∀ x ∈ col k es, x.length ≤ maxLen := by
  intro x hx
  obtain ⟨e, he, rfl⟩ := List.mem_map.1 hx
  rw [size_eq]
  have := h e he
  unfold colE
  split
  · exact this.cas
  · split
    · exact this.act
    · exact this.res
/-- So far just the texts of some columns, and of a part of the next one. -/
structure DictInv (es : List Ev) (k i : Nat) (out : List Bs) : Prop where
  asc : Asc out
  mem : ∀ x, x ∈ out ↔ (∃ j, j < k ∧ x ∈ col j es) ∨ x ∈ (col k es).take i
  len : out.length ≤ k * es.length + i
theorem DictInv.start (es : List Ev) : DictInv es 0 0 [] := ⟨by simp [Asc], by simp, by simp⟩
theorem DictInv.next {es : List Ev} {k : Nat} {out : List Bs} (h : DictInv es k es.length out) : DictInv es (k + 1) 0 out := by
  refine ⟨h.asc, fun x => ?_, by have := h.len; rw [Nat.add_mul]; omega⟩
  rw [h.mem x, List.take_of_length_le (by rw [col_len]; exact Nat.le_refl _)]
  constructor
  · rintro (⟨j, hj, hx⟩ | hx)
    · exact .inl ⟨j, by omega, hx⟩
    · exact .inl ⟨k, by omega, hx⟩
  · rintro (⟨j, hj, hx⟩ | hx)
    · rcases (show j < k ∨ j = k by omega) with h1 | rfl
      · exact .inl ⟨j, h1, hx⟩
      · exact .inr hx
    · simp at hx
theorem DictInv.there {es : List Ev} {k i : Nat} {out : List Bs} {s : Bs} (h : DictInv es k i out) (hs : (col k es)[i]? = some s) (hm : s ∈ out) : DictInv es k (i + 1) out := by
  refine ⟨h.asc, fun x => ?_, by have := h.len; omega⟩
  rw [take_next hs, List.mem_append, List.mem_singleton, ← or_assoc, ← h.mem x]
  exact ⟨.inl, fun h' => by rcases h' with h' | rfl; exact h'; exact hm⟩
theorem DictInv.new {es : List Ev} {k i : Nat} {out r : List Bs} {s : Bs} (h : DictInv es k i out) (hs : (col k es)[i]? = some s) (hr : InsRes out s r) : DictInv es k (i + 1) r := by
  refine ⟨hr.1, fun x => ?_, by have := h.len; have := hr.2.2; omega⟩
  rw [take_next hs, List.mem_append, List.mem_singleton, ← or_assoc, ← h.mem x]
  exact hr.2.1 x
theorem DictInv.done {es : List Ev} {out : List Bs} (h : DictInv es 3 0 out) : out = words es := by
  refine setB_unique h.asc fun x => ?_
  rw [h.mem x, names3_col]
  simp
theorem DictInv.fit {es : List Ev} {k i : Nat} {out : List Bs} (h : DictInv es k i out) (hf : ∀ e ∈ es, FitEv e) : ∀ x ∈ out, x.length ≤ maxLen := by
  intro x hx
  rcases (h.mem x).1 hx with ⟨j, _, hx⟩ | hx
  · exact col_fit hf x hx
  · exact col_fit hf x (List.mem_of_mem_take hx)
-- WALKS
set_option maxHeartbeats 1000000 in
set_option maxRecDepth 100000 in
theorem column0 (es : List Ev) (v : Value) (w : World) (hs : SlEv (Lt w.heap.size) w v es) (hl : es.length ≤ 1000) :
    Calls Try.prog 58 #[v, .int .i64 0] w fun e w' => ∃ v', e = .returned v' ∧ OwnS w' w.heap.size v' (col 0 es) ∧ Below w.heap.size w w' := by
  obtain ⟨A, c, rfl, h1, h2, hs⟩ := hs.open_
  have HS := Lib.hid hs
  clear hs
  go_enter Try.func58, Try.ntmps58
  go_wp2_with fail
  go_loopw [5, 6] (fun ov iv wr => ∃ i : Nat, iv = .int .i64 (i : Int) ∧ i ≤ es.length ∧ Hid (OwnS wr w.heap.size ov ((col 0 es).take i)) ∧ Below w.heap.size w wr) (fun _ iv _ => es.length - (intOf iv).toNat)
  case atStart => exact ⟨0, rfl, Nat.zero_le _, Lib.hid (World.ownsRow_nil _ _ _ _), Below.refl _ _⟩
  case round =>
    obtain ⟨i, rfl, hi, HO, hbr⟩ := hrel
    have hszr := hbr.size
    by_cases hlt : i < es.length
    · obtain ⟨b, o, e, dv, rfl, hD, hx, hff, hdv, f0, f1, f2, f3, f4, f5⟩ := SlEv.at_ HS.out hlt
      have c0 := (hbr.cell (p := ⟨b, o + i * 6, none⟩) hD).trans f0
      have hcol : (col 0 es)[i]? = some e.cas.data.toList := by unfold col; rw [List.getElem?_map, hx]; rfl
      have HT := Lib.hid (take_next hcol)
      have hlen : ((col 0 es).take i).length < 10000000 := by rw [List.length_take]; omega
      have HBR := Lib.hid hbr
      clear f0 f1 f2 f3 f4 f5 hff hdv hx hcol hbr
      go_wp2_with (at_builtin; refine wpList_push appStrs rfl (.tmp 24) (.tmp 30) rfl _ [.string e.cas] rfl (by simp [Value.oneCell']) _ ((col 0 es).take i).length (((col 0 es).take i).map encStr) rfl HO.out rfl hlen hszr ?_; intro v' w' hown' hgr hat)
      go_roundw
      case rel =>
        refine ⟨i + 1, by go_num, by omega, Lib.hid ?_, HBR.out.trans (below_of_grown hgr hszr (fun g hg => (World.ownsRow.lt HO.out g hg).1))⟩
        rw [HT.out]
        unfold OwnS
        rw [List.length_append, List.map_append]
        have e2 : [e.cas.data.toList].map encStr = [Value.string e.cas] := by
          show [Value.string (mkS e.cas.data.toList)] = _
          rw [mkS_of]
        rw [e2]
        exact hown'
      case measure => simp [intOf]; omega
    · obtain rfl : i = es.length := by omega
      go_wp2_with fail
      go_ret
      refine ⟨_, rfl, ?_, hbr⟩
      have := HO.out
      rw [List.take_of_length_le (by rw [col_len]; exact Nat.le_refl _)] at this
      exact this
set_option maxHeartbeats 1000000 in
set_option maxRecDepth 100000 in
theorem column1 (es : List Ev) (v : Value) (w : World) (hs : SlEv (Lt w.heap.size) w v es) (hl : es.length ≤ 1000) :
    Calls Try.prog 58 #[v, .int .i64 1] w fun e w' => ∃ v', e = .returned v' ∧ OwnS w' w.heap.size v' (col 1 es) ∧ Below w.heap.size w w' := by
  obtain ⟨A, c, rfl, h1, h2, hs⟩ := hs.open_
  have HS := Lib.hid hs
  clear hs
  go_enter Try.func58, Try.ntmps58
  go_wp2_with fail
  go_loopw [5, 6] (fun ov iv wr => ∃ i : Nat, iv = .int .i64 (i : Int) ∧ i ≤ es.length ∧ Hid (OwnS wr w.heap.size ov ((col 1 es).take i)) ∧ Below w.heap.size w wr) (fun _ iv _ => es.length - (intOf iv).toNat)
  case atStart => exact ⟨0, rfl, Nat.zero_le _, Lib.hid (World.ownsRow_nil _ _ _ _), Below.refl _ _⟩
  case round =>
    obtain ⟨i, rfl, hi, HO, hbr⟩ := hrel
    have hszr := hbr.size
    by_cases hlt : i < es.length
    · obtain ⟨b, o, e, dv, rfl, hD, hx, hff, hdv, f0, f1, f2, f3, f4, f5⟩ := SlEv.at_ HS.out hlt
      have c0 := (hbr.cell (p := ⟨b, o + i * 6 + 1, none⟩) hD).trans f1
      have hcol : (col 1 es)[i]? = some e.act.data.toList := by unfold col; rw [List.getElem?_map, hx]; rfl
      have HT := Lib.hid (take_next hcol)
      have hlen : ((col 1 es).take i).length < 10000000 := by rw [List.length_take]; omega
      have HBR := Lib.hid hbr
      clear f0 f1 f2 f3 f4 f5 hff hdv hx hcol hbr
      go_wp2_with (at_builtin; refine wpList_push appStrs rfl (.tmp 34) (.tmp 40) rfl _ [.string e.act] rfl (by simp [Value.oneCell']) _ ((col 1 es).take i).length (((col 1 es).take i).map encStr) rfl HO.out rfl hlen hszr ?_; intro v' w' hown' hgr hat)
      go_roundw
      case rel =>
        refine ⟨i + 1, by go_num, by omega, Lib.hid ?_, HBR.out.trans (below_of_grown hgr hszr (fun g hg => (World.ownsRow.lt HO.out g hg).1))⟩
        rw [HT.out]
        unfold OwnS
        rw [List.length_append, List.map_append]
        have e2 : [e.act.data.toList].map encStr = [Value.string e.act] := by
          show [Value.string (mkS e.act.data.toList)] = _
          rw [mkS_of]
        rw [e2]
        exact hown'
      case measure => simp [intOf]; omega
    · obtain rfl : i = es.length := by omega
      go_wp2_with fail
      go_ret
      refine ⟨_, rfl, ?_, hbr⟩
      have := HO.out
      rw [List.take_of_length_le (by rw [col_len]; exact Nat.le_refl _)] at this
      exact this
set_option maxHeartbeats 1000000 in
set_option maxRecDepth 100000 in
theorem column2 (es : List Ev) (v : Value) (w : World) (hs : SlEv (Lt w.heap.size) w v es) (hl : es.length ≤ 1000) :
    Calls Try.prog 58 #[v, .int .i64 2] w fun e w' => ∃ v', e = .returned v' ∧ OwnS w' w.heap.size v' (col 2 es) ∧ Below w.heap.size w w' := by
  obtain ⟨A, c, rfl, h1, h2, hs⟩ := hs.open_
  have HS := Lib.hid hs
  clear hs
  go_enter Try.func58, Try.ntmps58
  go_wp2_with fail
  go_loopw [5, 6] (fun ov iv wr => ∃ i : Nat, iv = .int .i64 (i : Int) ∧ i ≤ es.length ∧ Hid (OwnS wr w.heap.size ov ((col 2 es).take i)) ∧ Below w.heap.size w wr) (fun _ iv _ => es.length - (intOf iv).toNat)
  case atStart => exact ⟨0, rfl, Nat.zero_le _, Lib.hid (World.ownsRow_nil _ _ _ _), Below.refl _ _⟩
  case round =>
    obtain ⟨i, rfl, hi, HO, hbr⟩ := hrel
    have hszr := hbr.size
    by_cases hlt : i < es.length
    · obtain ⟨b, o, e, dv, rfl, hD, hx, hff, hdv, f0, f1, f2, f3, f4, f5⟩ := SlEv.at_ HS.out hlt
      have c0 := (hbr.cell (p := ⟨b, o + i * 6 + 2, none⟩) hD).trans f2
      have hcol : (col 2 es)[i]? = some e.res.data.toList := by unfold col; rw [List.getElem?_map, hx]; rfl
      have HT := Lib.hid (take_next hcol)
      have hlen : ((col 2 es).take i).length < 10000000 := by rw [List.length_take]; omega
      have HBR := Lib.hid hbr
      clear f0 f1 f2 f3 f4 f5 hff hdv hx hcol hbr
      go_wp2_with (at_builtin; refine wpList_push appStrs rfl (.tmp 14) (.tmp 20) rfl _ [.string e.res] rfl (by simp [Value.oneCell']) _ ((col 2 es).take i).length (((col 2 es).take i).map encStr) rfl HO.out rfl hlen hszr ?_; intro v' w' hown' hgr hat)
      go_roundw
      case rel =>
        refine ⟨i + 1, by go_num, by omega, Lib.hid ?_, HBR.out.trans (below_of_grown hgr hszr (fun g hg => (World.ownsRow.lt HO.out g hg).1))⟩
        rw [HT.out]
        unfold OwnS
        rw [List.length_append, List.map_append]
        have e2 : [e.res.data.toList].map encStr = [Value.string e.res] := by
          show [Value.string (mkS e.res.data.toList)] = _
          rw [mkS_of]
        rw [e2]
        exact hown'
      case measure => simp [intOf]; omega
    · obtain rfl : i = es.length := by omega
      go_wp2_with fail
      go_ret
      refine ⟨_, rfl, ?_, hbr⟩
      have := HO.out
      rw [List.take_of_length_le (by rw [col_len]; exact Nat.le_refl _)] at this
      exact this
theorem column_ref (k : Nat) (es : List Ev) (v : Value) (w : World) (hk : k < 3) (hs : SlEv (Lt w.heap.size) w v es) (hl : es.length ≤ 1000) :
    Calls Try.prog 58 #[v, .int .i64 (k : Int)] w fun e w' => ∃ v', e = .returned v' ∧ OwnS w' w.heap.size v' (col k es) ∧ Below w.heap.size w w' := by
  rcases (show k = 0 ∨ k = 1 ∨ k = 2 by omega) with rfl | rfl | rfl
  · exact column0 es v w hs hl
  · exact column1 es v w hs hl
  · exact column2 es v w hs hl
theorem OwnS.now {w w' : World} {base : Nat} {v : Value} {ss : List Bs} (h : OwnS w base v ss) (hb : Below w.heap.size w w') : OwnS w' base v ss := own_now h hb
set_option maxHeartbeats 2000000 in
set_option maxRecDepth 100000 in
theorem dict_ref (es : List Ev) (v : Value) (w : World) (hs : SlEv (Lt w.heap.size) w v es) (hl : es.length ≤ 100) :
    Calls Try.prog 56 #[v] w fun e w' => ∃ v', e = .returned v' ∧ OwnS w' w.heap.size v' (words es) ∧ Below w.heap.size w w' := by
  have HS := Lib.hid hs
  have HFT := Lib.hid (SlEv.fit hs)
  clear hs
  go_enter Try.func56, Try.ntmps56
  go_wp2_with fail
  go_loopw [3, 4] (fun ov kv wr => ∃ (k : Nat) (out : List Bs), kv = .int .i64 (k : Int) ∧ k ≤ 3 ∧ Hid (DictInv es k 0 out) ∧ Hid (OwnS wr w.heap.size ov out) ∧ Below w.heap.size w wr) (fun _ kv _ => 3 - (intOf kv).toNat)
  case atStart => exact ⟨0, [], rfl, by omega, Lib.hid (DictInv.start es), Lib.hid (World.ownsRow_nil _ _ _ _), Below.refl _ _⟩
  case round =>
    obtain ⟨k, out, rfl, hk, HI, HO, hbr⟩ := hrel
    obtain ⟨wo, rfl⟩ : ∃ wo, wo = wr := ⟨wr, rfl⟩
    have HBR := Lib.hid hbr
    have hszo := hbr.size
    clear hbr
    by_cases hlt : k < 3
    · have HC := Lib.hid (column_ref k es v wo hlt (HS.out.now HBR.out) (by omega))
      go_wp2_with fail
      (with_reducible refine HC.out.mono ?_)
      rintro x w1 ⟨v1, rfl, hc1, hb1⟩
      obtain ⟨Av, cv, rfl, hv1, hv2, hsv⟩ := SlS.open_ (hc1.slS (col_fit HFT.out))
      rw [List.length_map, col_len] at hsv hv1 ⊢
      have HSV := Lib.hid hsv
      have HO1 := Lib.hid (HO.out.now hb1)
      have HB1 := Lib.hid hb1
      have hsz1 := hb1.size
      clear hsv hc1 hb1 HO HC
      go_wp2_with fail
      go_loopw [3, 6] (fun ov iv wr => ∃ (i : Nat) (out : List Bs), iv = .int .i64 (i : Int) ∧ i ≤ es.length ∧ Hid (DictInv es k i out) ∧ Hid (OwnS wr w.heap.size ov out) ∧ Below w1.heap.size w1 wr) (fun _ iv _ => es.length - (intOf iv).toNat)
      case atStart => exact ⟨0, out, rfl, Nat.zero_le _, HI, HO1, Below.refl _ _⟩
      case round =>
        obtain ⟨i, out, rfl, hi, HI, HO, hbr⟩ := hrel
        obtain ⟨w2, rfl⟩ : ∃ w2, w2 = wr := ⟨wr, rfl⟩
        have hszr := hbr.size
        by_cases hlt : i < es.length
        · obtain ⟨b, o, x, rfl, hD, hx, hxs, hc⟩ := SlS.at_ (k := i) HSV.out hlt
          obtain ⟨s, hs, rfl⟩ : ∃ s, (col k es)[i]? = some s ∧ mkS s = x := by
            rw [List.getElem?_map, Option.map_eq_some_iff] at hx
            exact hx
          replace hc := (hbr.cell (p := ⟨b, o + i, none⟩) hD).trans hc
          have HX := Lib.hid hs
          have HBr := Lib.hid hbr
          have hso := HO.out.slS (HI.out.fit HFT.out)
          have hol : out.length ≤ 1000 := by
            have := HI.out.len
            have : k * es.length ≤ 3 * 100 := Nat.mul_le_mul (by omega) hl
            omega
          have HC := Lib.hid (index_ref _ _ (mkS s) _ hso)
          by_cases hm : s ∈ out
          · have ha := atS_mem (ws := out) (s := mkS s) hm
            rw [ha] at HC
            have z1 : decide (((atW out (mkS s) : Nat) : Int) < 0) = false := by simp
            have HN := Lib.hid (HI.out.there hs hm)
            generalize atW out (mkS s) = z at *
            clear ha hs hx hso hm hbr
            go_wp2_with fail
            (with_reducible refine HC.out.mono ?_)
            rintro x w3 ⟨rfl, rfl⟩
            go_wp2_with fail
            go_roundw
            case rel => exact ⟨i + 1, out, by go_num, by omega, HN, HO, HBr.out⟩
            case measure => simp [intOf]; omega
          · have ha := atS_not (ws := out) (s := mkS s) hm
            rw [ha] at HC
            have HCI := Lib.hid (insert_new _ out (mkS s) w2 hso HI.out.asc hm hol)
            clear ha hs hx hso hm hbr
            go_wp2_with fail
            (with_reducible refine HC.out.mono ?_)
            rintro x w3 ⟨rfl, rfl⟩
            go_wp2_with fail
            (with_reducible refine HCI.out.mono ?_)
            rintro x w4 ⟨v4, r, rfl, hr, hir, hb4⟩
            go_wp2_with fail
            go_roundw
            case rel => exact ⟨i + 1, r, by go_num, by omega, Lib.hid (HI.out.new HX.out hir), Lib.hid (ownsRow_base_a hr (by omega)), HBr.out.trans (hb4.mono hszr)⟩
            case measure => simp [intOf]; omega
        · obtain rfl : i = es.length := by omega
          go_wp2_with fail
          go_roundw
          case rel => exact ⟨k + 1, out, by go_num, by omega, Lib.hid HI.out.next, HO, HBR.out.trans ((HB1.out.trans (hbr.mono hsz1)).mono hszo)⟩
          case measure => simp [intOf]; omega
    · obtain rfl : k = 3 := by omega
      go_wp2_with fail
      go_ret
      refine ⟨_, rfl, ?_, HBR.out⟩
      rw [← HI.out.done]
      exact HO.out
end Go.Proofs.Ytjglmjdfndcmmaa
