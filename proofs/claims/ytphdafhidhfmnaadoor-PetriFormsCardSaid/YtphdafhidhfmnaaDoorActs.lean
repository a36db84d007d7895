/- petri.Acts, casebookref02.Insert, casebookref21.Acts. -/
import Derived.Test.YtphdafhidhfmnaaDoorSortSpec
import Derived.Test.YtphdafhidhfmnaaDoorRun
import Derived.Sort.OwnSorted
import Derived.Lib.Bytes
namespace Go.Proofs.YtphdafhidhfmnaaDoor
open Go.RowKit

def mkS (l : Bs) : ByteArray := ⟨l.toArray⟩
theorem mkS_data (l : Bs) : (mkS l).data.toList = l := rfl
theorem mkS_toList (l : Bs) : (mkS l).toList = l := by rw [Lib.toList_data]; rfl
theorem mkS_of (s : ByteArray) : mkS s.data.toList = s := by cases s; rfl
theorem mkS_size (l : Bs) : (mkS l).size = l.length := rfl
theorem less_eq : ∀ (x y : Bs), Op.bytesLess x y = decide (x < y)
  | [], [] => by simp [Op.bytesLess]
  | _ :: _, [] => by simp [Op.bytesLess]
  | [], _ :: _ => by simp [Op.bytesLess]
  | a :: x, b :: y => by
    rw [Op.bytesLess, less_eq x y]
    simp only [List.cons_lt_cons_iff]
    by_cases h1 : a < b <;> by_cases h2 : a = b <;> by_cases h3 : x < y <;> simp [h1, h2, h3]

theorem Sl.take_ {α : Type} {size : Nat} {R : ElemR α} {D : Nat → Prop} {w : World} {A : Option Addr} {n c k : Nat} {xs : List α} (h : Sl size R D w (.slice A n c) xs) (hk : k ≤ xs.length) : Sl size R D w (.slice A k c) (xs.take k) := by
  obtain ⟨A', c', hv, h1, h2, h3⟩ := h
  injection hv with e1 e2 e3
  subst e1 e3
  refine ⟨A, c, by rw [List.length_take, Nat.min_eq_left hk], by rw [List.length_take]; omega, h2, fun i x hx => h3 i x ?_⟩
  rw [List.getElem?_take] at hx
  split at hx
  · exact hx
  · cases hx

/-- A row of texts of the call's own. -/
abbrev OwnS (w : World) (base : Nat) (v : Value) (ss : List Bs) : Prop := w.ownsRow base 9 1 v ss.length (ss.map encStr)
theorem OwnS.slS {w : World} {base : Nat} {v : Value} {ss : List Bs} (h : OwnS w base v ss) (hf : ∀ s ∈ ss, s.length ≤ maxLen) : SlS (Lt w.heap.size) w v (ss.map mkS) :=
  SlS.of_own (zs := ss.map mkS) (by rw [List.map_map]; exact h) (fun z hz => by obtain ⟨s, hs, rfl⟩ := List.mem_map.1 hz; exact hf s hs)

theorem sortS (v : Value) (ss : List Bs) (base : Nat) (w : World) (h : OwnS w base v ss) (hl : ss.length ≤ 1000) :
    Calls Tryd.prog 73 #[v] w fun e w' => e = .returned (.tuple #[]) ∧ OwnS w' base v (sortB ss) ∧ Below base w w' := by
  by_cases hn : 0 < ss.length
  · rcases h.2 with ⟨_, h0⟩ | ⟨g, cap, cur, rfl, hbase, hb, h1, h2, h3, h4⟩
    · omega
    · have hg : g < w.heap.size := (Array.getElem?_eq_some_iff.1 hb).1
      refine (Tryd.slices_Sort_string g 0 cap ss w (holds_of_block hb (by simpa using h4)) hg (by omega)).mono ?_
      rintro e w' ⟨rfl, m, os, rfl⟩
      refine ⟨rfl, ?_, ?_⟩
      · have := ownsRow_sorted (n := m) (os := os) (ts := sortB ss) (sortB_len ss) hbase hb h1 h2 h3
        unfold OwnS
        rw [sortB_len]
        exact this
      · have hgr := grownBy_sorted (w := w) (g := g) (n := m) (os := os) (sortB ss).toArray
        exact below_of_grown hgr (by omega) (fun g' e => by injection e with e; omega)
  · have : ss = [] := List.eq_nil_of_length_eq_zero (by omega)
    subst this
    rcases h.2 with ⟨rfl, _⟩ | ⟨g, cap, cur, rfl, hb, hg, hc, hm, hs, htake⟩
    · refine (Tryd.slices_Sort_string_none none 0 w).mono ?_
      rintro e w' ⟨rfl, rfl⟩
      exact ⟨rfl, by rw [show sortB [] = [] by simp [sortB]]; exact h, Below.refl _ _⟩
    · refine (Tryd.slices_Sort_string_none (some ⟨g, 0, none⟩) cap w).mono ?_
      rintro e w' ⟨rfl, rfl⟩
      exact ⟨rfl, by rw [show sortB [] = [] by simp [sortB]]; exact h, Below.refl _ _⟩

theorem compactS (v : Value) (ss : List Bs) (base : Nat) (w : World) (h : OwnS w base v ss) (hl : ss.length ≤ 1000) (hf : ∀ s ∈ Lib.compact ss, s.length ≤ maxLen) :
    Calls Tryd.prog 74 #[v] w fun e w' => ∃ v', e = .returned v' ∧ SlS (Lt w'.heap.size) w' v' ((Lib.compact ss).map mkS) ∧ Below base w w' := by
  by_cases hn : 0 < ss.length
  · rcases h.2 with ⟨_, h0⟩ | ⟨g, cap, cur, rfl, hbase, hb, h1, h2, h3, h4⟩
    · omega
    · have hg : g < w.heap.size := (Array.getElem?_eq_some_iff.1 hb).1
      refine (Tryd.slices_Compact_string g 0 cap ss w (holds_of_block hb (by simpa using h4)) (by omega) h1).mono ?_
      rintro e w' ⟨rfl, m, rfl⟩
      have hcl := compact_len ss
      have hlen : (Lib.compact ss ++ List.replicate (ss.length - (Lib.compact ss).length) ([] : Bs)).length = ss.length := by simp; omega
      have ho := ownsRow_sorted (n := m) (os := #[]) (ss := ss) (ts := Lib.compact ss ++ List.replicate (ss.length - (Lib.compact ss).length) ([] : Bs)) hlen hbase hb h1 h2 h3
      have hgr := grownBy_sorted (w := w) (g := g) (n := m) (os := #[]) (Lib.compact ss ++ List.replicate (ss.length - (Lib.compact ss).length) ([] : Bs)).toArray
      rw [Go.Sort.grow_empty] at ho hgr
      generalize Go.Sort.putRow encStr (Go.Sort.ahead w m) g 0 (Lib.compact ss ++ List.replicate (ss.length - (Lib.compact ss).length) ([] : Bs)).toArray = W at *
      refine ⟨_, rfl, ?_, below_of_grown hgr (by omega) (fun g' e => by injection e with e; omega)⟩
      have ho' : OwnS W base (.slice (some ⟨g, 0, none⟩) ss.length cap) (Lib.compact ss ++ List.replicate (ss.length - (Lib.compact ss).length) ([] : Bs)) := by
        unfold OwnS
        rw [hlen]
        exact ho
      have hsl := ho'.slS (fun s hs => by
        rcases List.mem_append.1 hs with hs | hs
        · exact hf s hs
        · rw [(List.mem_replicate.1 hs).2]; exact Nat.zero_le _)
      have := Sl.take_ (k := (Lib.compact ss).length) hsl (by simp)
      rw [List.map_append, List.take_left' (by simp)] at this
      exact this
  · have : ss = [] := List.eq_nil_of_length_eq_zero (by omega)
    subst this
    rcases h.2 with ⟨rfl, _⟩ | ⟨g, cap, cur, rfl, hb, hg, hc, hm, hs, htake⟩
    · refine (Tryd.slices_Compact_string_empty none 0 w).mono ?_
      rintro e w' ⟨rfl, rfl⟩
      exact ⟨_, rfl, Sl.none_, Below.refl _ _⟩
    · refine (Tryd.slices_Compact_string_empty (some ⟨g, 0, none⟩) cap w).mono ?_
      rintro e w' ⟨rfl, rfl⟩
      exact ⟨_, rfl, ⟨_, cap, rfl, hc, hm, fun i x hx => by simp [Lib.compact, Lib.compactUpTo] at hx⟩, Below.refl _ _⟩

def labOf (t : Tr) : Bs := t.label.data.toList
def labsTo (n : Net) (k : Nat) : List Bs := ((n.trans.take k).filter (fun t => !(labOf t).isEmpty)).map labOf
def actsL (n : Net) : List ByteArray := (setB (labsTo n n.trans.length)).map mkS
def actsE (n : Net) : List ByteArray × Int := if validB n = false then ([], 1) else (actsL n, 0)
theorem labs_skip {n : Net} {k : Nat} {t : Tr} (ht : n.trans[k]? = some t) (h : t.label.toList = []) : labsTo n (k + 1) = labsTo n k := by
  unfold labsTo
  rw [List.take_add_one, ht, List.filter_append, List.map_append]
  have : labOf t = [] := by unfold labOf; rw [← Lib.toList_data]; exact h
  simp [this]
theorem labs_take {n : Net} {k : Nat} {t : Tr} (ht : n.trans[k]? = some t) (h : ¬ t.label.toList = []) : labsTo n (k + 1) = labsTo n k ++ [labOf t] := by
  unfold labsTo
  rw [List.take_add_one, ht, List.filter_append, List.map_append]
  have : labOf t ≠ [] := by unfold labOf; rw [← Lib.toList_data]; exact h
  simp [this]
theorem labs_len (n : Net) (k : Nat) : (labsTo n k).length ≤ k := by
  unfold labsTo
  rw [List.length_map]
  refine Nat.le_trans (List.length_filter_le _ _) ?_
  rw [List.length_take]; omega
theorem labs_fit {n : Net} {k : Nat} (h : ∀ t ∈ n.trans, t.label.size ≤ maxLen) : ∀ s ∈ labsTo n k, s.length ≤ maxLen := by
  intro s hs
  unfold labsTo at hs
  obtain ⟨t, ht, rfl⟩ := List.mem_map.1 hs
  exact h t (List.mem_of_mem_take (List.mem_filter.1 ht).1)
theorem net_labels {n : Net} {D : Nat → Prop} {w : World} {A : Option Addr} {c : Nat} (ht : SlT D w (.slice A n.trans.length c) n.trans) : ∀ t ∈ n.trans, t.label.size ≤ maxLen := by
  intro t htt
  obtain ⟨k, hk, rfl⟩ := List.mem_iff_getElem.1 htt
  obtain ⟨_, _, x, _, _, _, _, hx, hlb, _⟩ := ht.at_ hk
  rw [List.getElem?_eq_getElem hk] at hx
  injection hx with hx
  rw [hx]; exact hlb

set_option maxHeartbeats 1000000 in
set_option maxRecDepth 100000 in
theorem acts_any (n : Net) (v : Value) (w : World) (h : IsNet (Lt w.heap.size) w v n) :
    Calls Tryd.prog 42 #[v] w (RetSE (actsE n).1 (actsE n).2 w) := by
  have h0 := h
  obtain ⟨tv, rfl, hp, hs, hkk, ht⟩ := h
  obtain ⟨A, c, rfl, h1, h2, ht⟩ := ht.open_
  have HLB := Lib.hid (net_labels ht)
  go_enter Tryd.func42, Tryd.ntmps42
  go_wp2_with fail
  have hb := bone w (Obj.cells #[Value.int IntKind.i64 n.places, Value.slice A n.trans.length c, Value.int IntKind.i64 n.source, Value.int IntKind.i64 n.sink] 24)
  refine (valid_any n _ _ (h0.now hb)).mono ?_
  rintro e w1 ⟨rfl, hb1⟩
  have hbw := bthen hb hb1
  have hB1 := (Blk.new w 24 #[.int .i64 n.places, .slice A n.trans.length c, .int .i64 n.source, .int .i64 n.sink]).now hb1
  obtain ⟨q0, q1, q2, q3⟩ := hB1.c4
  have hlt1 := hB1.lt
  generalize hq : validB n = q
  have HQ := Lib.hid hq
  clear hq
  cases q
  · have HE : Hid (actsE n = ([], 1)) := by show actsE n = _; unfold actsE; rw [HQ.out]; rfl
    go_wp2_with fail
    go_ret2
    rw [HE.out]
    exact ⟨_, rfl, Sl.none_, hbw⟩
  have HE : Hid (actsE n = (actsL n, 0)) := by show actsE n = _; unfold actsE; rw [HQ.out]; rfl
  obtain ⟨v1, v2, v3, v4⟩ := validOk HQ.out
  clear v4
  go_wp2_with fail
  clear q0 q1 q2 q3
  go_loopw [4, 13] (fun ov i wr => ∃ k : Nat, k ≤ n.trans.length ∧ i = .int .i64 k ∧ OwnS wr (w.heap.size + 1) ov (labsTo n k) ∧ Below w.heap.size w wr ∧ w.heap.size < wr.heap.size) (fun _ i _ => n.trans.length - (intOf i).toNat)
  case atStart => exact ⟨0, Nat.zero_le _, rfl, World.ownsRow_nil _ _ _ _, hbw, hlt1⟩
  case round =>
    obtain ⟨k, hk, rfl, hown, hbr, hltr⟩ := hrel
    have hll := labs_len n k
    by_cases hlt : k < n.trans.length
    · obtain ⟨b, o, t, iv, ov', rfl, hD, hx, hlb, hti, hto, d0, d1, d2⟩ := (ht.now hbr).at_ hlt
      have HX := Lib.hid hx
      clear hx
      have hbt := bone wr (.cells #[.string t.label, iv, ov'] 64)
      have hown2 := own_now hown hbt
      have hb3 := bthen hbr hbt
      have hlt2 : w.heap.size < (wr.alloc (.cells #[.string t.label, iv, ov'] 64)).heap.size := Nat.lt_of_lt_of_le hltr hbt.size
      obtain ⟨Ai, ci, rfl, i1, i2, hti⟩ := hti.open_
      obtain ⟨Ao, co, rfl, o1, o2, hto⟩ := hto.open_
      have hT := Blk.new wr 64 #[.string t.label, .slice Ai t.ins.length ci, .slice Ao t.outs.length co]
      go_upto_region 7 with fail
      clear hown hbt
      generalize wr.alloc (.cells #[.string t.label, .slice Ai t.ins.length ci, .slice Ao t.outs.length co] 64) = wt at *
      obtain ⟨g0, g1, g2⟩ := hT.c3
      by_cases hlab : t.label.toList = []
      · have HS := Lib.hid (labs_skip HX.out hlab)
        go_wp2_with fail
        go_roundw
        case rel => exact ⟨k + 1, by omega, by go_num, by rw [HS.out]; exact hown2, hb3, hlt2⟩
        case measure => simp [intOf]; omega
      · have HS := Lib.hid (labs_take HX.out hlab)
        have hlab2 : (!t.label.toList.isEmpty) = true := by simpa using hlab
        go_wp2_with (at_builtin; refine wpList_push appStrs rfl (.tmp 20) (.tmp 23) rfl wt [.string t.label] rfl (by simp [Value.oneCell']) _ (labsTo n k).length ((labsTo n k).map encStr) rfl hown2 rfl (by omega) hlt2 ?_; intro v' w' hown' hgr hat)
        have hbg : Below (w.heap.size + 1) wt w' := below_of_grown hgr (by omega) (fun g hg => (hown2.lt g hg).1)
        go_roundw
        case rel =>
          refine ⟨k + 1, by omega, by go_num, ?_, hb3.trans (hbg.mono (by omega)), Nat.lt_of_lt_of_le hlt2 hbg.size⟩
          rw [HS.out]
          unfold OwnS
          rw [List.length_append, List.map_append]
          have e : [labOf t].map encStr = [Value.string t.label] := by
            show [Value.string (mkS t.label.data.toList)] = _
            rw [mkS_of]
          rw [e]
          exact hown'
        case measure => simp [intOf]; omega
    · obtain rfl : k = n.trans.length := by omega
      go_wp2_with fail
      refine (sortS _ _ _ _ hown (by omega)).mono ?_
      rintro e w2 ⟨rfl, hown2, hb2⟩
      have hsl := sortB_len (labsTo n n.trans.length)
      go_wp2_with fail
      refine (compactS _ _ _ _ hown2 (by omega) (fun s hs => labs_fit HLB.out s ((setB_mem _ s).1 hs))).mono ?_
      rintro e w3 ⟨v', rfl, hsl', hb3⟩
      go_wp2_with fail
      go_ret2
      rw [HE.out]
      exact ⟨_, rfl, hsl', (hbr.trans (hb2.mono (by omega))).trans (hb3.mono (by omega))⟩

def RetIns (l : List Bs) (s : Bs) (w : World) (e : Ending) (w' : World) : Prop := ∃ v' r, e = .returned v' ∧ SlS (Lt w'.heap.size) w' v' (r.map mkS) ∧ InsRes l s r ∧ Below w.heap.size w w'

set_option maxHeartbeats 1000000 in
set_option maxRecDepth 100000 in
theorem insert_ref (v : Value) (l : List Bs) (s : ByteArray) (w : World) (hv : SlS (Lt w.heap.size) w v (l.map mkS)) (ha : Asc l) (hs : s.size ≤ maxLen) (hl : l.length ≤ 1000) :
    Calls Tryd.prog 75 #[v, .string s] w (RetIns l s.data.toList w) := by
  have HA := Lib.hid ha
  clear ha
  have hv0 := hv
  obtain ⟨A, c, rfl, h1, h2, hv⟩ := hv.open_
  rw [List.length_map] at h1 hv hv0 ⊢
  have HF : Hid (∀ x ∈ l, x.length ≤ maxLen) := fun x hx => by
    obtain ⟨q, hq, rfl⟩ := List.mem_iff_getElem.1 hx
    obtain ⟨_, _, z, _, _, hz, hf, _⟩ := hv.at_ (k := q) (by omega)
    rw [List.getElem?_map, List.getElem?_eq_getElem hq] at hz
    injection hz with hz
    rw [← hz] at hf; exact hf
  go_enter Tryd.func75, Tryd.ntmps75
  go_wp2_with fail
  go_loopw [5, 6, 7] (fun ov dv i wr => ∃ (k : Nat) (d : Bool) (out : List Bs), k ≤ l.length ∧ i = .int .i64 k ∧ dv = .bool d ∧ InsInv l s.data.toList k d out ∧ OwnS wr w.heap.size ov out ∧ Below w.heap.size w wr) (fun _ _ i _ => l.length - (intOf i).toNat)
  case atStart => exact ⟨0, false, [], Nat.zero_le _, rfl, rfl, InsInv.start _ _, World.ownsRow_nil _ _ _ _, Below.refl _ _⟩
  case round =>
    obtain ⟨k, d, out, hk, rfl, rfl, hinv, hown, hbr⟩ := hrel
    have hol := hinv.len
    have HI := Lib.hid hinv
    clear hinv
    have hols : out.length ≤ 1001 := by
      cases d <;> simp at hol <;> omega
    clear hol
    have hszr := hbr.size
    by_cases hlt : k < l.length
    · obtain ⟨b, o, x, rfl, hD, hx, hf, hcw⟩ := hv.at_ hlt
      have hc := (hbr.cell (p := ⟨b, o + k, none⟩) hD).trans hcw
      have HCW := Lib.hid hcw
      clear hcw
      obtain ⟨y, hy, hxy⟩ : ∃ y, l[k]? = some y ∧ mkS y = x := by
        rw [List.getElem?_map, Option.map_eq_some_iff] at hx
        exact hx
      have HY := Lib.hid hy
      have HXY : Hid (x.toList = y ∧ Value.string x = encStr y) := by
        subst hxy
        exact ⟨mkS_toList y, rfl⟩
      have HSL : Hid (s.toList = s.data.toList) := Lib.toList_data s
      clear hx hy hxy
      by_cases he : y = s.data.toList
      · have hd : (x.toList == s.toList) = true := by rw [HXY.out.1, HSL.out, he]; simp
        have HR : Hid (InsRes l s.data.toList l) := InsRes.same HA.out (by rw [← he]; exact List.mem_of_getElem? HY.out)
        clear he
        go_wp2_with fail
        go_ret
        exact ⟨_, l, rfl, hv0.now hbr, HR.out, hbr⟩
      have hd : (x.toList == s.toList) = false := by rw [HXY.out.1, HSL.out]; simpa using he
      have HE := Lib.hid he
      clear he
      cases d
      · by_cases hls : y < s.data.toList
        · have hd2 : Op.bytesLess x.toList s.toList = true := by rw [HXY.out.1, HSL.out, less_eq]; simpa using hls
          have HN := Lib.hid (HI.out.plain HA.out HY.out hls)
          clear hls
          go_wp2_with (at_builtin; refine wpList_push appStrs rfl (.tmp 35) (.tmp 40) rfl _ [.string x] rfl (by simp [Value.oneCell']) _ out.length (out.map encStr) rfl hown rfl (by omega) hszr ?_; intro v' w' hown' hgr hat)
          go_roundw
          case rel =>
            refine ⟨k + 1, false, out ++ [y], by omega, by go_num, rfl, HN.out, ?_, hbr.trans (below_of_grown hgr hszr (fun g hg => (hown.lt g hg).1))⟩
            unfold OwnS
            rw [List.length_append, List.map_append, List.map_cons, List.map_nil, ← HXY.out.2]
            exact hown'
          case measure => simp [intOf]; omega
        · have hd2 : Op.bytesLess x.toList s.toList = false := by rw [HXY.out.1, HSL.out, less_eq]; simpa using hls
          have HN := Lib.hid (HI.out.ins HY.out (bs_total hls HE.out))
          clear hls
          go_upto_region 11 with (at_builtin; refine wpList_push appStrs rfl (.tmp 31) (.tmp 33) rfl _ [.string s] rfl (by simp [Value.oneCell']) _ out.length (out.map encStr) rfl hown rfl (by omega) hszr ?_; intro v1 w1 hown1 hgr1 hat1)
          have hb1 : Below w.heap.size w w1 := hbr.trans (below_of_grown hgr1 hszr (fun g hg => (hown.lt g hg).1))
          have hc1 : w1.cell? ⟨b, o + k, none⟩ = some (.string x) := (hb1.cell (p := ⟨b, o + k, none⟩) hD).trans HCW.out
          have hown1' : OwnS w1 w.heap.size v1 (out ++ [s.data.toList]) := by
            unfold OwnS
            rw [List.length_append, List.map_append]
            have e : [s.data.toList].map encStr = [Value.string s] := by
              show [Value.string (mkS s.data.toList)] = _
              rw [mkS_of]
            rw [e]
            exact hown1
          have hl1 : (out ++ [s.data.toList]).length < 10000000 := by rw [List.length_append]; simp; omega
          clear hc hgr1 hat1 hown hown1
          go_wp2_with (at_builtin; refine wpList_push appStrs rfl (.tmp 35) (.tmp 40) rfl _ [.string x] rfl (by simp [Value.oneCell']) _ (out ++ [s.data.toList]).length ((out ++ [s.data.toList]).map encStr) rfl hown1' rfl hl1 hb1.size ?_; intro v' w' hown' hgr hat)
          go_roundw
          case rel =>
            refine ⟨k + 1, true, out ++ [s.data.toList] ++ [y], by omega, by go_num, rfl, HN.out, ?_, hb1.trans (below_of_grown hgr hb1.size (fun g hg => (hown1'.lt g hg).1))⟩
            unfold OwnS
            rw [List.length_append, List.map_append (l₁ := out ++ [s.data.toList]), List.map_cons, List.map_nil, ← HXY.out.2]
            exact hown'
          case measure => simp [intOf]; omega
      · have HN := Lib.hid (HI.out.after HA.out HY.out)
        go_wp2_with (at_builtin; refine wpList_push appStrs rfl (.tmp 35) (.tmp 40) rfl _ [.string x] rfl (by simp [Value.oneCell']) _ out.length (out.map encStr) rfl hown rfl (by omega) hszr ?_; intro v' w' hown' hgr hat)
        go_roundw
        case rel =>
          refine ⟨k + 1, true, out ++ [y], by omega, by go_num, rfl, HN.out, ?_, hbr.trans (below_of_grown hgr hszr (fun g hg => (hown.lt g hg).1))⟩
          unfold OwnS
          rw [List.length_append, List.map_append, List.map_cons, List.map_nil, ← HXY.out.2]
          exact hown'
        case measure => simp [intOf]; omega
    · have hkl : k = l.length := by omega
      have HFO : Hid (∀ r, InsRes l s.data.toList r → ∀ x ∈ r, x.length ≤ maxLen) := fun r hr x hx => by
        rcases (hr.2.1 x).1 hx with h' | h'
        · exact HF.out x h'
        · rw [h']; exact hs
      cases d
      · have HN := Lib.hid (HI.out.doneF hkl)
        go_wp2_with (at_builtin; refine wpList_push appStrs rfl (.tmp 44) (.tmp 46) rfl _ [.string s] rfl (by simp [Value.oneCell']) _ out.length (out.map encStr) rfl hown rfl (by omega) hszr ?_; intro v' w' hown' hgr hat)
        go_ret
        have hown1' : OwnS w' w.heap.size v' (out ++ [s.data.toList]) := by
          unfold OwnS
          rw [List.length_append, List.map_append]
          have e : [s.data.toList].map encStr = [Value.string s] := by
            show [Value.string (mkS s.data.toList)] = _
            rw [mkS_of]
          rw [e]
          exact hown'
        exact ⟨_, _, rfl, hown1'.slS (HFO.out _ HN.out), HN.out, hbr.trans (below_of_grown hgr hszr (fun g hg => (hown.lt g hg).1))⟩
      · have HN := Lib.hid (HI.out.doneT hkl)
        go_wp2_with fail
        go_ret
        exact ⟨_, _, rfl, OwnS.slS hown (HFO.out _ HN.out), HN.out, hbr⟩

def RetS (zs : List ByteArray) (w : World) (e : Ending) (w' : World) : Prop := ∃ v, e = .returned v ∧ SlS (Lt w'.heap.size) w' v zs ∧ Below w.heap.size w w'

set_option maxHeartbeats 1000000 in
set_option maxRecDepth 100000 in
theorem acts_ref (n : Net) (v : Value) (w : World) (h : IsNet (Lt w.heap.size) w v n) (hV : validB n = true) :
    Calls Tryd.prog 45 #[v] w (RetS (actsL n) w) := by
  obtain ⟨v1, v2, v3, v4⟩ := validOk hV
  clear v4 hV
  obtain ⟨tv, rfl, hp, hs, hkk, ht⟩ := h
  obtain ⟨A, c, rfl, h1, h2, ht⟩ := ht.open_
  have HLB := Lib.hid (net_labels ht)
  go_enter Tryd.func45, Tryd.ntmps45
  have hb := bone w (Obj.cells #[Value.int IntKind.i64 n.places, Value.slice A n.trans.length c, Value.int IntKind.i64 n.source, Value.int IntKind.i64 n.sink] 24)
  have hB := Blk.new w 24 #[.int .i64 n.places, .slice A n.trans.length c, .int .i64 n.source, .int .i64 n.sink]
  go_upto_region 1 with fail
  generalize w.alloc (.cells #[.int .i64 n.places, .slice A n.trans.length c, .int .i64 n.source, .int .i64 n.sink] 24) = w1 at *
  go_wp2_with fail
  go_loopw [3, 4] (fun ov i wr => ∃ (k : Nat) (r : List Bs), k ≤ n.trans.length ∧ i = .int .i64 k ∧ SlS (Lt wr.heap.size) wr ov (r.map mkS) ∧ Asc r ∧ (∀ x, x ∈ r ↔ x ∈ labsTo n k) ∧ r.length ≤ k ∧ Below w.heap.size w wr ∧ Blk wr w.heap.size 24 #[.int .i64 n.places, .slice A n.trans.length c, .int .i64 n.source, .int .i64 n.sink]) (fun _ i _ => n.trans.length - (intOf i).toNat)
  case atStart => exact ⟨0, [], Nat.zero_le _, rfl, Sl.none_, by simp [Asc], by simp [labsTo], by simp, hb, hB⟩
  case round =>
    obtain ⟨k, r, hk, rfl, hsl, ha, hm, hrl, hbr, hBr⟩ := hrel
    have HA := Lib.hid ha
    have HM := Lib.hid hm
    clear ha hm
    obtain ⟨q0, q1, q2, q3⟩ := hBr.c4
    by_cases hlt : k < n.trans.length
    · obtain ⟨b, o, t, iv, ov', rfl, hD, hx, hlb, hti, hto, d0, d1, d2⟩ := (ht.now hbr).at_ hlt
      have HX := Lib.hid hx
      clear hx
      by_cases hlab : t.label.toList = []
      · have HS := Lib.hid (labs_skip HX.out hlab)
        go_wp2_with fail
        go_roundw
        case rel => exact ⟨k + 1, r, by omega, by go_num, hsl, HA.out, by rw [HS.out]; exact HM.out, by omega, hbr, hBr⟩
        case measure => simp [intOf]; omega
      · have HS := Lib.hid (labs_take HX.out hlab)
        have hlab2 : (!t.label.toList.isEmpty) = true := by simpa using hlab
        go_wp2_with fail
        refine (insert_ref _ r t.label _ hsl HA.out hlb (by omega)).mono ?_
        rintro e w2 ⟨v', r', rfl, hsl', hres, hb2⟩
        have HRES := Lib.hid hres
        clear hres
        go_wp2_with fail
        go_roundw
        case rel =>
          refine ⟨k + 1, r', by omega, by go_num, hsl', HRES.out.1, fun x => ?_, by have := HRES.out.2.2; omega, bthen hbr hb2, hBr.now hb2⟩
          rw [HS.out, HRES.out.2.1, List.mem_append, HM.out, List.mem_singleton]
          exact Iff.rfl
        case measure => simp [intOf]; omega
    · obtain rfl : k = n.trans.length := by omega
      go_wp2_with fail
      go_ret
      refine ⟨_, rfl, ?_, hbr⟩
      unfold actsL
      rw [← setB_unique HA.out HM.out]
      exact hsl
end Go.Proofs.YtphdafhidhfmnaaDoor
