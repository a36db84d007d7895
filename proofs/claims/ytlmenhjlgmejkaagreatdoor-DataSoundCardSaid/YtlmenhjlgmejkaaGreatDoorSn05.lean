/- Merged texts. -/
import Derived.Lib.Builder
import Derived.Lib.AppendStr
import Derived.Lib.UnsafeStr
import Derived.Lib.FrozenHead2
import Derived.Lib.OthersKept
import Derived.Laws.Externs
import Derived.Deep.RegionWith
import Derived.Test.YtlmenhjlgmejkaaGreatDoorSn04
set_option linter.all false
namespace Go.Proofs.YtlmenhjlgmejkaaGreatDoor
open Go.RowKit
def namesOf (l : List Var) : List Bs := bytesOf (l.map Var.name)
theorem namesOf_take (l : List Var) (k : Nat) : namesOf (l.take k) = (namesOf l).take k := by unfold namesOf bytesOf; rw [List.map_take, List.map_take]
theorem namesOf_get {l : List Var} {k : Nat} {x : Var} (h : l[k]? = some x) : (namesOf l)[k]? = some x.name.data.toList := by unfold namesOf bytesOf; simp [h]
theorem namesOf_snoc {l : List Var} {k : Nat} {x : Var} (h : l[k]? = some x) : namesOf (l.take (k + 1)) = namesOf (l.take k) ++ [x.name.data.toList] := by
 rw [namesOf_take, namesOf_take, List.take_add_one, namesOf_get h]; rfl
def VarsTo (l : List Var) (k : Nat) : Prop := (∀ j x, j < k → l[j]? = some x → varB x = true) ∧ (namesOf (l.take k)).Nodup
theorem VarsTo.zero (l : List Var) : VarsTo l 0 := ⟨fun j _ h => absurd h (by omega), by unfold namesOf bytesOf; simp⟩
theorem VarsTo.next {l : List Var} {k : Nat} {x : Var} (h : VarsTo l k) (hx : l[k]? = some x) (h1 : varB x = true) (h2 : x.name.data.toList ∉ namesOf (l.take k)) : VarsTo l (k + 1) := by
 refine ⟨fun j y hj hy => ?_, ?_⟩
 ·by_cases e : j = k
  ·subst e; rw [hx] at hy; injection hy with hy; subst hy; exact h1
  ·exact h.1 j y (by omega) hy
 ·rw [namesOf_snoc hx, List.nodup_append]
  refine ⟨h.2, by simp, fun a ha b hb e => ?_⟩
  simp only [List.mem_singleton] at hb
  subst e hb
  exact h2 ha
theorem varsB_all {l : List Var} (h : VarsTo l l.length) : varsB l = decide (l.length ≤ 8) := by
 unfold varsB
 have h1 : l.all varB = true := by
  rw [List.all_eq_true]
  intro x hx
  obtain ⟨j, hj, rfl⟩ := List.mem_iff_getElem.1 hx
  exact h.1 j _ hj (List.getElem?_eq_getElem hj)
 have h2 := h.2
 rw [List.take_of_length_le (Nat.le_refl _)] at h2
 have h3 : onceB (bytesOf (l.map Var.name)) = true := decide_eq_true h2
 rw [h1, h3]; simp
theorem varsB_bad {l : List Var} {k : Nat} {x : Var} (hx : l[k]? = some x) (h : varB x = false) : varsB l = false := by
 unfold varsB
 have : l.all varB = false := by
  rw [List.all_eq_false]
  exact ⟨x, List.mem_of_getElem? hx, by rw [h]; simp⟩
 rw [this]; simp
theorem varsB_twice {l : List Var} {k : Nat} {x : Var} (hx : l[k]? = some x) (h : x.name.data.toList ∈ namesOf (l.take k)) : varsB l = false := by
 unfold varsB
 have : onceB (bytesOf (l.map Var.name)) = false := by
  unfold onceB
  rw [decide_eq_false_iff_not]
  intro hn
  have h1 : (namesOf (l.take (k + 1))).Nodup := by
   rw [namesOf_take]
   exact hn.sublist (List.take_sublist _ _)
  rw [namesOf_snoc hx, List.nodup_append] at h1
  exact h1.2.2 _ h _ (by simp) rfl
 rw [this]; simp
theorem varsB_long {l : List Var} (h : 8 < l.length) : varsB l = false := by
 unfold varsB
 have : decide (l.length ≤ 8) = false := decide_eq_false (by omega)
 rw [this]; rfl
set_option maxHeartbeats 2000000 in
theorem validVars_any (l : List Var) (u : Value) (w : World) (h : SlX (Lt w.heap.size) w u l) (hl : l.length ≤ 1000000) :
  Calls Tryz.prog 134 #[u] w fun e w' => e = .returned (.bool (varsB l)) ∧ Below w.heap.size w w' := by
 have hmm := @run_makeMap Tryz.prog
 obtain ⟨A, c, rfl, h1, h2, ht⟩ := h.open_
 go_enter Tryz.func134, Tryz.ntmps134
 go_wp2_with fail
 go_loopw [9] (fun i wr => ∃ j : Nat, j ≤ l.length ∧ i = .int .i64 j ∧ Below w.heap.size w wr ∧ SetS wr w.heap.size j (namesOf (l.take j)) ∧ VarsTo l j) (fun i _ => l.length - (intOf i).toNat)
 case atStart => exact ⟨0, Nat.zero_le _, rfl, bone w _, SetS.made w, VarsTo.zero l⟩
 case round =>
  obtain ⟨j, hj, rfl, hb, hset, hto⟩ := hrel
  have HTO := Lib.hid hto
  clear hto
  by_cases hlt : j < l.length
  ·obtain ⟨b, o, x, iv, rfl, hD, hx, hvar, hiv, c0, c1, c2, c3, c4⟩ := (ht.now hb).at_ hlt
   have HX := Lib.hid hx
   clear hx
   obtain ⟨A2, k2, rfl, g1, g2, hiv⟩ := hiv.open_
   have hnm : x.name.size ≤ maxLen := by obtain ⟨_, _, hn, _⟩ := hvar; exact hn
   have hb1 := bone wr (.cells #[.string x.name, .int .i64 x.kind, .int .i64 x.low, .int .i64 x.high, .slice A2 x.items.length k2] 117)
   have hB1 := Blk.new wr 117 #[.string x.name, .int .i64 x.kind, .int .i64 x.low, .int .i64 x.high, .slice A2 x.items.length k2]
   have hvar1 := hvar.now hb1
   go_wp2_with fail
   refine (validVar_any x _ _ hvar1).mono ?_
   rintro e w2 ⟨rfl, hb2⟩
   have hB2 := hB1.now hb2
   have hset2 := (hset.now hb1).now hb2
   have hbw2 : Below w.heap.size w w2 := hb.trans ((bthen hb1 hb2).mono hb.size)
   obtain ⟨q0, q1, q2, q3, q4⟩ := hB2.c5
   have hlk := hset2.look hnm
   generalize hq : varB x = q
   have HQ := Lib.hid hq
   clear hq
   cases q
   ·have HE := Lib.hid (varsB_bad HX.out HQ.out)
    clear hlk
    go_wp2_with fail
    go_ret
    exact ⟨ret_bool HE.out.symm, hbw2⟩
   ·by_cases hin : x.name.data.toList ∈ namesOf (l.take j)
    ·have HE := Lib.hid (varsB_twice HX.out hin)
     rw [decide_eq_true hin] at hlk
     clear hin
     go_wp2_with fail
     go_ret
     exact ⟨ret_bool HE.out.symm, hbw2⟩
    ·have HI := Lib.hid hin
     rw [decide_eq_false hin] at hlk
     clear hin
     go_wp2_with (at_mapUpdate; refine hset2.store hnm (by unfold maxLen; omega) rfl _ _ _ rfl rfl rfl rfl ?_)
     intro w3 hset3 hg3
     go_wp2_with fail
     go_roundw
     case rel =>
      refine ⟨j + 1, by omega, by go_num, hbw2.trans (below_of_grown hg3 hbw2.size (fun g hg => by injection hg with hg; omega)), ?_, HTO.out.next HX.out HQ.out HI.out⟩
      rw [namesOf_snoc HX.out]
      exact hset3
     case measure => simp [intOf]; omega
  ·obtain rfl : j = l.length := by omega
   have HE := Lib.hid (varsB_all HTO.out)
   go_wp2_with fail
   go_ret
   exact ⟨ret_bool (by rw [HE.out, decide_eq_decide]; omega), hb⟩
set_option maxHeartbeats 2000000 in
theorem validVars_ref (l : List Var) (u : Value) (w : World) (h : SlX (Lt w.heap.size) w u l) :
  Calls Tryz.prog 75 #[u] w fun e w' => e = .returned (.bool (varsB l)) ∧ Below w.heap.size w w' := by
 obtain ⟨A, c, rfl, h1, h2, ht⟩ := h.open_
 clear h
 go_enter Tryz.func75, Tryz.ntmps75
 by_cases h8 : 8 < l.length
 ·have HE := Lib.hid (varsB_long h8)
  go_wp2_with fail
  go_ret
  exact ⟨ret_bool HE.out.symm, Below.refl _ _⟩
 go_wp2_with fail
 go_loopw [3] (fun i wr => ∃ j : Nat, j ≤ l.length ∧ i = .int .i64 j ∧ Below w.heap.size w wr ∧ VarsTo l j) (fun i _ => l.length - (intOf i).toNat)
 case atStart => exact ⟨0, Nat.zero_le _, rfl, Below.refl _ _, VarsTo.zero l⟩
 case round =>
  obtain ⟨j, hj, rfl, hb, hto⟩ := hrel
  have HTO := Lib.hid hto
  clear hto
  by_cases hlt : j < l.length
  ·obtain ⟨b, o, x, iv, rfl, hD, hx, hvar, hiv, c0, c1, c2, c3, c4⟩ := (ht.now hb).at_ hlt
   have HX := Lib.hid hx
   clear hx
   go_wp2_with fail
   refine (validVar_ref x _ _ hvar).mono ?_
   rintro e w2 ⟨rfl, hb2⟩
   have hbw2 : Below w.heap.size w w2 := bthen hb hb2
   clear hvar hiv c0 c1 c2 c3 c4
   generalize hq : varB x = q
   have HQ := Lib.hid hq
   clear hq
   cases q
   ·have HE := Lib.hid (varsB_bad HX.out HQ.out)
    go_wp2_with fail
    go_ret
    exact ⟨ret_bool HE.out.symm, hbw2⟩
   ·go_wp2_with fail
    go_loopw [4] (fun i wx => ∃ k : Nat, k ≤ j ∧ i = .int .i64 k ∧ Below w.heap.size w wx ∧ ∀ q y, q < k → l[q]? = some y → y.name.data.toList ≠ x.name.data.toList) (fun i _ => j - (intOf i).toNat)
    case atStart => exact ⟨0, Nat.zero_le _, rfl, hbw2, fun q _ h => absurd h (by omega)⟩
    case round =>
     obtain ⟨k, hk, rfl, hbx, hp⟩ := hrel
     have HP := Lib.hid hp
     clear hp
     by_cases hkl : k < j
     ·obtain ⟨b', o', x', iv', eA, hD', hx', hvar', hiv', c0', c1', c2', c3', c4'⟩ := (ht.now hbx).at_ (k := j) hlt
      obtain ⟨b2, o2, y, iy, eA2, hD2, hy, hvary, hivy, d0, d1, d2, d3, d4⟩ := (ht.now hbx).at_ (k := k) (by omega)
      injection eA with eA; injection eA with e1 e2; subst e1 e2
      injection eA2 with eA2; injection eA2 with e3 e4; subst e3 e4
      obtain rfl : x' = x := by have := HX.out; rw [hx'] at this; injection this
      have HY := Lib.hid hy
      clear hx' hy hvar' hiv' c1' c2' c3' c4' hvary hivy d1 d2 d3 d4
      have i1 : (0 : Int) ≤ k := by omega
      have i2 : (k : Int) < (l.length : Int) := by omega
      have i3 : (0 : Int) ≤ j := by omega
      have i4 : (j : Int) < (l.length : Int) := by omega
      cases hq : (y.name.toList == x'.name.toList) with
      | true =>
       have HE : Hid (varsB l = false) := by
        refine varsB_twice HX.out ?_
        have e : y.name.data.toList = x'.name.data.toList := by
         have := eq_of_beq hq
         rwa [Lib.toList_data, Lib.toList_data] at this
        rw [← e, namesOf_take, List.mem_take_iff_getElem]
        have hy := namesOf_get HY.out
        obtain ⟨hk', hy⟩ := List.getElem?_eq_some_iff.1 hy
        exact ⟨k, by omega, hy⟩
       go_wp2
       go_quiet (fail)
       go_wp2
       go_ret
       exact ⟨ret_bool HE.out.symm, bdrawn hbx _⟩
      | false =>
       have HN : Hid (y.name.data.toList ≠ x'.name.data.toList) := by
        show _ ≠ _
        rw [← Lib.toList_data, ← Lib.toList_data]
        exact ne_of_beq_false hq
       go_wp2
       go_quiet (fail)
       go_wp2
       go_roundw
       case rel =>
        refine ⟨k + 1, by omega, by go_num, bdrawn hbx _, fun q z hq hz => ?_⟩
        by_cases e : q = k
        ·subst e; rw [HY.out] at hz; injection hz with hz; subst hz; exact HN.out
        ·exact HP.out q z (by omega) hz
       case measure => simp [intOf]; omega
     ·obtain rfl : k = j := by omega
      go_wp2_with fail
      go_roundw
      case rel =>
       refine ⟨k + 1, by omega, by go_num, hbx, HTO.out.next HX.out HQ.out (fun hm => ?_)⟩
       rw [namesOf_take, List.mem_take_iff_getElem] at hm
       obtain ⟨q, hq, e⟩ := hm
       have hq1 : q < l.length := by omega
       refine HP.out q l[q] (by omega) (List.getElem?_eq_getElem hq1) ?_
       rw [← e]
       unfold namesOf bytesOf
       simp
      case measure => simp [intOf]; omega
  ·obtain rfl : j = l.length := by omega
   have HE := Lib.hid (varsB_all HTO.out)
   go_wp2_with fail
   go_ret
   exact ⟨ret_bool (by rw [HE.out]; simp; omega), hb⟩
def inE (x : Var) (v : Val) : Bool × Int := if varB x && validV v then (decide (0 ≤ placeV x v), 0) else (false, 1)
def sizeE (x : Var) : Int × Int := if varB x then (sizeV x, 0) else (0, 1)
def nthE (x : Var) (i : Int) : Val × Int := if varB x then (if i < 0 ∨ sizeV x ≤ i then (noV, 2) else (nthV x i, 0)) else (noV, 1)
def rankE (x : Var) (v : Val) : Int × Int := if varB x && validV v then (if placeV x v < 0 then (0, 11) else (placeV x v, 0)) else (0, 1)
theorem ret_bi {a b : Bool} {c d : Int} (h : (a, c) = (b, d)) : Ending.returned (.tuple #[.bool a, .int .i64 c]) = .returned (.tuple #[.bool b, .int .i64 d]) := by injection h with h1 h2; rw [h1, h2]
set_option maxHeartbeats 1000000 in
theorem inE_any (x : Var) (v : Val) (u : Value) (w : World) (h : IsVar (Lt w.heap.size) w u x) (hf : FitV v) :
  Calls Tryz.prog 108 #[u, valV v] w fun e w' => e = .returned (.tuple #[.bool (inE x v).1, .int .i64 (inE x v).2]) ∧ Below w.heap.size w w' := by
 have hv := h
 obtain ⟨iv, rfl, hnm, f1, f2, f3, hit⟩ := h
 obtain ⟨A, c, rfl, i1, i2, hit⟩ := hit.open_
 have hb0 := bone w (.cells #[.string x.name, .int .i64 x.kind, .int .i64 x.low, .int .i64 x.high, .slice A x.items.length c] 117)
 have hb := bbox hb0 (.cells #[.int .i64 v.kind, .int .i64 v.n, .string v.s] 63)
 have hB := (Blk.new w 117 #[.string x.name, .int .i64 x.kind, .int .i64 x.low, .int .i64 x.high, .slice A x.items.length c]).alloc (.cells #[.int .i64 v.kind, .int .i64 v.n, .string v.s] 63)
 have hC := Blk.new_at (t := 63) (cs := #[.int .i64 v.kind, .int .i64 v.n, .string v.s]) (w := w.alloc (.cells #[.string x.name, .int .i64 x.kind, .int .i64 x.low, .int .i64 x.high, .slice A x.items.length c] 117)) (s := w.heap.size + 1) (by simp)
 have hv1 := hv.now hb
 unfold valV
 go_enter Tryz.func108, Tryz.ntmps108
 go_wp2_with fail
 refine (validVar_any x _ _ hv1).mono ?_
 rintro e w2 ⟨rfl, hb2⟩
 have hB2 := hB.now hb2
 have hC2 := hC.now hb2
 have hv2 := hv1.now hb2
 have hbw2 := bthen hb hb2
 obtain ⟨q0, q1, q2, q3, q4⟩ := hB2.c5
 obtain ⟨y0, y1, y2⟩ := hC2.c3
 generalize hq : varB x = q
 have HQ := Lib.hid hq
 clear hq
 cases q
 ·have HE : Hid ((false, 1) = ((inE x v).1, (inE x v).2)) := by show _ = _; unfold inE; rw [HQ.out]; rfl
  go_wp2_with fail
  go_ret2
  exact ⟨ret_bi HE.out, hbw2⟩
 ·go_wp2_with fail
  refine (validV_any v _ hf).mono ?_
  rintro e w3 ⟨rfl, hb3⟩
  have hB3 := hB2.now hb3
  have hC3 := hC2.now hb3
  have hv3 := hv2.now hb3
  have hbw3 := bthen hbw2 hb3
  clear q0 q1 q2 q3 q4 y0 y1 y2
  obtain ⟨q0, q1, q2, q3, q4⟩ := hB3.c5
  obtain ⟨y0, y1, y2⟩ := hC3.c3
  generalize hp : validV v = p
  have HP := Lib.hid hp
  clear hp
  cases p
  ·have HE : Hid ((false, 1) = ((inE x v).1, (inE x v).2)) := by show _ = _; unfold inE; rw [HQ.out, HP.out]; rfl
   go_wp2_with fail
   go_ret2
   exact ⟨ret_bi HE.out, hbw3⟩
  ·have HE : Hid ((decide (0 ≤ placeV x v), 0) = ((inE x v).1, (inE x v).2)) := by show _ = _; unfold inE; rw [HQ.out, HP.out]; rfl
   go_wp2_with fail
   refine (place_any x v _ _ hv3 (tame_of HQ.out) hf).mono ?_
   rintro e w4 ⟨rfl, hb4⟩
   go_wp2_with fail
   go_ret2
   exact ⟨ret_bi HE.out, bthen hbw3 hb4⟩
theorem Blk.set3 {w : World} {g : Nat} {t : TypeId} {a b c : Value} (h : Blk w g t #[a, b, c]) (x y z : Value) :
  Blk (((w.setCell ⟨g, 0, none⟩ x).setCell ⟨g, 1, none⟩ y).setCell ⟨g, 2, none⟩ z) g t #[x, y, z] := by
 have := ((h.set_ 0 x).set_ 1 y).set_ 2 z
 exact this
theorem bset3 {w w1 : World} {g : Nat} (h : Below w.heap.size w w1) (hg : w.heap.size ≤ g) (x y z : Value) :
  Below w.heap.size w (((w1.setCell ⟨g, 0, none⟩ x).setCell ⟨g, 1, none⟩ y).setCell ⟨g, 2, none⟩ z) :=
 ((h.setCell (p := ⟨g, 0, none⟩) hg x).setCell (p := ⟨g, 1, none⟩) hg y).setCell (p := ⟨g, 2, none⟩) hg z
def Bld (w : World) (B b : Nat) (l : List UInt8) : Prop := Lib.IsBuilderF 166 5 B b (Lib.byteCells l) w
theorem builderSize : (Tryz.prog.info? 166).map (·.size) = some 2 := by kernel_rfl
theorem builderLies : liesAt Tryz.prog Tryz.prog.depth 166 (2 / Tryz.prog.cellsOf 166) 0 166 1 = true := by kernel_rfl
theorem byteInfo : (Tryz.prog.info? 5).map (fun i => (i.zero, i.size, i.bytes)) = some (some (.int .u8 0), 1, 1) := by kernel_rfl
set_option maxHeartbeats 1000000 in
set_option maxRecDepth 100000 in
theorem copyCheck_used (b : Nat) (w : World) (h0 : w.cell? ⟨b, 0, none⟩ = some (.pointer (some ⟨b, 0, none⟩))) :
  Calls Tryz.prog 151 #[.pointer (some ⟨b, 0, none⟩)] w fun e w' => e = .returned (.tuple #[]) ∧ w' = w := by
 obtain ⟨j, hj, _⟩ := Option.map_eq_some_iff.1 builderSize
 go_enter Tryz.func151, Tryz.ntmps151
 go_wp2
 rw [Lib.run_neq_ptr_same w _ Tryz.underlying164 hj]
 go_wp2
 go_end0
 exact ⟨rfl, rfl⟩
set_option maxHeartbeats 1000000 in
set_option maxRecDepth 100000 in
theorem copyCheck_fresh (b : Nat) (w : World) (h0 : w.cell? ⟨b, 0, none⟩ = some (.pointer none)) (hsh : w.shape? b = some (166, 2)) (hfz : w.frozen? ⟨b, 0, none⟩ = false) :
  Calls Tryz.prog 151 #[.pointer (some ⟨b, 0, none⟩)] w fun e w' => e = .returned (.tuple #[]) ∧ w' = w.setCell ⟨b, 0, none⟩ (.pointer (some ⟨b, 0, none⟩)) := by
 obtain ⟨j, hj, hjs⟩ := Option.map_eq_some_iff.1 builderSize
 go_enter Tryz.func151, Tryz.ntmps151
 go_wp2
 rw [Lib.run_to_unsafe w ⟨b, 0, none⟩ Tryz.underlying164 Tryz.underlying204 hj (by rw [hjs]; decide) hsh (Nat.zero_lt_succ 1)]
 simp only [Result.andThen]
 rw [Oper.upon_value]
 go_wp2
 rw [run_callFunc_extern Tryz.func175 (by kernel_rfl) (by kernel_rfl) (by kernel_rfl) (e := Extern.AbiNoEscape.same) (by kernel_rfl)]
 rw [Lib.run_noEscape]
 simp only [Result.andThen]
 rw [Oper.upon_value]
 go_wp2
 rw [Lib.run_from_unsafe w ⟨b, 0, none⟩ Tryz.underlying204 Tryz.underlying164 hj hsh builderLies]
 simp only [Result.andThen]
 rw [Oper.upon_value]
 go_wp2
 go_end0
 exact ⟨rfl, rfl⟩
theorem copyCheck_any (B b : Nat) (bs : List Value) (w : World) (h : Lib.IsBuilderF 166 5 B b bs w) :
  Calls Tryz.prog 151 #[.pointer (some ⟨b, 0, none⟩)] w fun e w' => e = .returned (.tuple #[]) ∧ (Lib.BuilderAtF 166 5 B b (.pointer (some ⟨b, 0, none⟩)) bs w' ∧ Below B w w' ∧ Lib.OthersKept 5 (some b) w w') := by
 rcases h with h | h
 ·refine (copyCheck_fresh b w h.cell0 h.shape h.frozen0).mono ?_
  rintro e w' ⟨rfl, rfl⟩
  exact ⟨rfl, h.used _, (Below.refl B w).setCell (p := ⟨b, 0, none⟩) h.1 _, (Lib.OthersKept.refl _ _ w).setCell ⟨b, 0, none⟩ rfl _⟩
 ·refine (copyCheck_used b w h.cell0).mono ?_
  rintro e w' ⟨rfl, rfl⟩
  exact ⟨rfl, h, Below.refl B _, Lib.OthersKept.refl _ _ _⟩
set_option maxHeartbeats 2000000 in
set_option maxRecDepth 100000 in
theorem writeString_any (B b : Nat) (l : List UInt8) (s : ByteArray) (w : World) (h : Bld w B b l) (hlen : l.length + s.size ≤ 140737488355328) (hBw : B ≤ w.heap.size) :
  Calls Tryz.prog 113 #[.pointer (some ⟨b, 0, none⟩), .string s] w fun e w' => e = .returned (.tuple #[.int .i64 s.size, .nilIface]) ∧ (Bld w' B b (l ++ s.data.toList) ∧ Below B w w' ∧ Lib.OthersKept 5 (some b) w w') := by
 obtain ⟨i0, hi, hz0, hz1, hz2⟩ := info_parts byteInfo
 have hbl : (Lib.byteCells l).length = l.length := Lib.byteCells_length l
 go_enter Tryz.func113, Tryz.ntmps113
 go_wp2_with (go_at_call 151; refine (copyCheck_any B b (Lib.byteCells l) _ h).mono ?_)
 rintro e w1 ⟨rfl, h1, hb1, hk1⟩
 obtain ⟨hB, v, hbk, hown, hne⟩ := h1
 have c0 : w1.cell? ⟨b, 0, none⟩ = some (.pointer (some ⟨b, 0, none⟩)) := by rw [Lib.cell_of_heap hbk]; rfl
 have c1 : w1.cell? ⟨b, 1, none⟩ = some v := by rw [Lib.cell_of_heap hbk]; rfl
 have HBL := Lib.hid hbl
 clear hbl
 go_wp2_with (at_builtin; refine Lib.wpList_append_own_stringF _ rfl _ _ 91 9 rfl B 5 i0 Tryz.underlying91 Tryz.underlying9 hi hz0 hz1 hz2 _ _ _ rfl hown s rfl ?c3 ?c4 ?c5 ?_)
 case c3 => have := HBL.out; unfold maxLen; omega
 case c4 => have := HBL.out; omega
 case c5 => have := hb1.size; omega
 intro v' w2 hown' hgrow _
 have hlt : b < w1.heap.size := by
  rcases Nat.lt_or_ge b w1.heap.size with h' | h'
  ·exact h'
  ·simp [Array.getElem?_eq_none h'] at hbk
 have hb2 : w2.heap[b]? = some (.cells #[.pointer (some ⟨b, 0, none⟩), v] 166 (0, 0)) := by
  rw [hgrow.block b hlt (fun e => hne e.symm)]
  exact hbk
 have d0 : w2.cell? ⟨b, 0, none⟩ = some (.pointer (some ⟨b, 0, none⟩)) := by rw [Lib.cell_of_heap hb2]; rfl
 have d1 : w2.cell? ⟨b, 1, none⟩ = some v := by rw [Lib.cell_of_heap hb2]; rfl
 have f1 : w2.frozen? ⟨b, 1, none⟩ = false := Lib.frozen_of_heap hb2 1
 obtain ⟨ao, n', cap, rfl⟩ : ∃ ao n' cap, v' = .slice ao n' cap := by
  rcases hown'.2 with ⟨hv, _⟩ | ⟨g, cap, cur, fz, hv, _⟩
  ·exact ⟨_, _, _, hv⟩
  ·exact ⟨_, _, _, hv⟩
 go_wp2
 go_ret2
 refine ⟨rfl, ?_, ?_, (hk1.grown hgrow (Lib.ownsRowF_kind hown)).setCell ⟨b, 1, none⟩ rfl _⟩
 ·right
  rw [Lib.byteCells_append, ← Lib.strCells_eq]
  exact Lib.BuilderAtF.put (T := 166) (e := 5) hB hb2 (bs' := Lib.byteCells l ++ Lib.strCells s) (by simpa [Lib.strCells_length] using hown') (by decide)
 ·exact (hb1.grown hgrow (by have := hb1.size; omega) (fun k hk => (hown.lt k hk).1)).setCell (p := ⟨b, 1, none⟩) hB _
set_option maxHeartbeats 2000000 in
set_option maxRecDepth 100000 in
theorem writeByte_any (B b : Nat) (l : List UInt8) (c : UInt8) (w : World) (h : Bld w B b l) (hlen : l.length + 1 ≤ 140737488355328) (hBw : B ≤ w.heap.size) :
  Calls Tryz.prog 194 #[.pointer (some ⟨b, 0, none⟩), .int .u8 (c.toNat : Int)] w fun e w' => e = .returned .nilIface ∧ (Bld w' B b (l ++ [c]) ∧ Below B w w' ∧ Lib.OthersKept 5 (some b) w w') := by
 obtain ⟨i0, hi, hz0, hz1, hz2⟩ := info_parts byteInfo
 have hbl : (Lib.byteCells l).length = l.length := Lib.byteCells_length l
 have HC : Hid (Lib.byteCells (l ++ [c]) = Lib.byteCells l ++ [.int .u8 (c.toNat : Int)]) := by show _ = _; rw [Lib.byteCells_append]; rfl
 generalize (c.toNat : Int) = z at *
 go_enter Tryz.func194, Tryz.ntmps194
 go_wp2_with (go_at_call 151; refine (copyCheck_any B b (Lib.byteCells l) _ h).mono ?_)
 rintro e w1 ⟨rfl, h1, hb1, hk1⟩
 obtain ⟨hB, v, hbk, hown, hne⟩ := h1
 have c0 : w1.cell? ⟨b, 0, none⟩ = some (.pointer (some ⟨b, 0, none⟩)) := by rw [Lib.cell_of_heap hbk]; rfl
 have c1 : w1.cell? ⟨b, 1, none⟩ = some v := by rw [Lib.cell_of_heap hbk]; rfl
 have HBL := Lib.hid hbl
 clear hbl
 go_wp2_with (at_builtin; refine wpList_append_ownF _ rfl _ _ 91 rfl B 5 i0 (.int .u8 0) 1 1 Tryz.underlying91 hi hz0 hz1 hz2 rfl (by decide) _ _ _ rfl (hown.alloc _) ⟨w1.heap.size, 0, none⟩ 1 1 [.int .u8 z] rfl rfl ?c1 ?c2 ?c3 ?c4 ?c5 ?_)
 case c1 =>
  intro j u hj
  match j, hj with
  | 0, hj => simp at hj; subst hj; simp [Addr.add]
 case c2 => intro u hu; simp at hu; subst hu; rfl
 case c3 => have := HBL.out; unfold maxLen; omega
 case c4 => have := HBL.out; omega
 case c5 => have := hb1.size; simp; omega
 intro v' w2 hown' hgrow _
 have hlt : b < w1.heap.size := by
  rcases Nat.lt_or_ge b w1.heap.size with h' | h'
  ·exact h'
  ·simp [Array.getElem?_eq_none h'] at hbk
 have hb2 : w2.heap[b]? = some (.cells #[.pointer (some ⟨b, 0, none⟩), v] 166 (0, 0)) := by
  rw [hgrow.block b (by simp; omega) (fun e => hne e.symm), Lib.alloc_old w1 _ b hlt]
  exact hbk
 have d0 : w2.cell? ⟨b, 0, none⟩ = some (.pointer (some ⟨b, 0, none⟩)) := by rw [Lib.cell_of_heap hb2]; rfl
 have d1 : w2.cell? ⟨b, 1, none⟩ = some v := by rw [Lib.cell_of_heap hb2]; rfl
 have f1 : w2.frozen? ⟨b, 1, none⟩ = false := Lib.frozen_of_heap hb2 1
 obtain ⟨ao, n', cap, rfl⟩ : ∃ ao n' cap, v' = .slice ao n' cap := by
  rcases hown'.2 with ⟨hv, _⟩ | ⟨g, cap, cur, fz, hv, _⟩
  ·exact ⟨_, _, _, hv⟩
  ·exact ⟨_, _, _, hv⟩
 go_wp2
 go_ret
 refine ⟨rfl, ?_, ?_, ((hk1.alloc _).grown hgrow (Lib.ownsRowF_kind (hown.alloc _))).setCell ⟨b, 1, none⟩ rfl _⟩
 ·right
  rw [HC.out]
  exact Lib.BuilderAtF.put (T := 166) (e := 5) hB hb2 (bs' := Lib.byteCells l ++ [.int .u8 z]) (by simpa using hown') (by decide)
 ·exact ((hb1.alloc (by have := hb1.size; omega) _).grown hgrow (by have := hb1.size; simp; omega) (fun k hk => (hown.lt k hk).1)).setCell (p := ⟨b, 1, none⟩) hB _
theorem string_any (B b : Nat) (l : List UInt8) (w : World) (h : Bld w B b l) (hBw : B ≤ w.heap.size) :
  Calls Tryz.prog 116 #[.pointer (some ⟨b, 0, none⟩)] w fun e w' => e = .returned (.string ⟨l.toArray⟩) ∧ (Bld w' B b l ∧ Below B w w' ∧ Lib.OthersKept 5 (some b) w w') :=
 Tryz.Builder_String_any_k B b l w h hBw
theorem Bld.new {w : World} {b B : Nat} (hb : Blk w b 166 #[.pointer none, .slice none 0 0]) (hB : B ≤ b) : Bld w B b [] := by
 left
 exact ⟨hB, .slice none 0 0, hb, World.ownsRowF_nil _ _ _ _, by simp [Value.ownBlock]⟩
theorem at_now {w w' : World} {B b : Nat} {p : Value} {bs : List Value} (h : Lib.BuilderAtF 166 5 B b p bs w) (hb : Below w.heap.size w w') : Lib.BuilderAtF 166 5 B b p bs w' := by
 obtain ⟨hB, v, hbk, hown, hne⟩ := h
 have hlt : b < w.heap.size := by
  rcases Nat.lt_or_ge b w.heap.size with h' | h'
  ·exact h'
  ·rw [Array.getElem?_eq_none h'] at hbk; cases hbk
 refine ⟨hB, v, (hb.block b hlt).trans hbk, hown.kept (grown_of_below hb none) ?_, hne⟩
 cases e : v.ownBlock with
 | none => exact .inl rfl
 | some g => exact .inr (by simp)
theorem Bld.now {w w' : World} {B b : Nat} {l : List UInt8} (h : Bld w B b l) (hb : Below w.heap.size w w') : Bld w' B b l := by
 rcases h with h | h
 ·exact .inl (at_now h hb)
 ·exact .inr (at_now h hb)
def escC (c : UInt8) : List UInt8 := if c.toNat = 34 ∨ c.toNat = 92 then [92, c] else [c]
def escB (l : List UInt8) : List UInt8 := l.flatMap escC
def quoteL (l : List UInt8) : List UInt8 := 34 :: (escB l ++ [34])
def quoteS (s : ByteArray) : ByteArray := ⟨(quoteL s.data.toList).toArray⟩
theorem escB_snoc {l : List UInt8} {k : Nat} {c : UInt8} (h : l[k]? = some c) : escB (l.take (k + 1)) = escB (l.take k) ++ escC c := by
 unfold escB
 rw [List.take_add_one, h, List.flatMap_append]
 simp
theorem escB_len (l : List UInt8) : (escB l).length ≤ 2 * l.length := by
 unfold escB
 induction l with
 | nil => simp
 | cons a l ih =>
  rw [List.flatMap_cons, List.length_append, List.length_cons]
  have : (escC a).length ≤ 2 := by unfold escC; split <;> simp
  omega
theorem byteOf {s : ByteArray} {k : Nat} (h : k < s.size) : s.data.toList[k]? = some s[k] := by
 rw [List.getElem?_eq_getElem (by simpa using h)]; rfl
set_option maxHeartbeats 400000 in
theorem printable_any (s : ByteArray) (w : World) (hs : s.size ≤ maxLen) : Calls Tryz.prog 178 #[.string s] w fun e w' => e = .returned (.bool (plainS s)) ∧ w = w' := by
 unfold maxLen at hs
 go_enter Tryz.func178, Tryz.ntmps178
 go_wp2_with fail
 go_loop [6] (fun i => ∃ k : Nat, k ≤ s.size ∧ i = .int .i64 k ∧ ∀ j (hj : j < s.size), j < k → plainC (s.data.toList[j]'(by simpa using hj)) = true) (fun i => s.size - (intOf i).toNat)
 case atStart => exact ⟨0, Nat.zero_le _, rfl, fun j _ hj => absurd hj (by omega)⟩
 case round =>
  obtain ⟨k, hk, rfl, hp⟩ := hrel
  have HP := Lib.hid hp
  clear hp
  by_cases hlt : k < s.size
  ·have HY := Lib.hid (byte_plain hlt)
   by_cases h1 : (s[k].toNat : Int) < 32
   ·have HE := Lib.hid (not_plain hlt (fun h => by have := HY.out.1 h; omega))
    go_wp2_with fail
    go_ret
    exact ⟨ret_bool HE.out.symm, rfl⟩
   by_cases h2 : 126 < (s[k].toNat : Int)
   ·have HE := Lib.hid (not_plain hlt (fun h => by have := HY.out.1 h; omega))
    go_wp2_with fail
    go_ret
    exact ⟨ret_bool HE.out.symm, rfl⟩
   have HQ := Lib.hid (HY.out.2 ⟨by omega, by omega⟩)
   go_wp2_with fail
   go_round
   case rel => exact ⟨k + 1, by omega, by go_num, fun j hj hjk => by
    by_cases e : j = k
    ·subst e; exact HQ.out
    ·exact HP.out j hj (by omega)⟩
   case measure => simp [intOf]; omega
  ·have HE := Lib.hid (all_plain (s := s) (fun j hj => HP.out j hj (by omega)))
   go_wp2_with fail
   go_ret
   exact ⟨ret_bool HE.out.symm, rfl⟩
set_option maxHeartbeats 1000000 in
theorem literal_any (s : ByteArray) (w : World) (hs : s.size ≤ 1000000) : Calls Tryz.prog 179 #[.string s] w fun e w' => e = .returned (.string (quoteS s)) ∧ Below w.heap.size w w' := by
 have hb := bone w (.cells #[.pointer none, .slice none 0 0] 166)
 have hB0 := Bld.new (Blk.new w 166 #[.pointer none, .slice none 0 0]) (Nat.le_refl _)
 go_enter Tryz.func179, Tryz.ntmps179
 go_wp2_with fail
 refine (writeByte_any w.heap.size w.heap.size [] 34 _ hB0 (by simp) (by simp)).mono ?_
 rintro e w1 ⟨rfl, hB1, hb1, _⟩
 have hbw1 : Below w.heap.size w w1 := hb.trans hb1
 go_wp2_with fail
 go_loopw [8] (fun i wr => ∃ k : Nat, k ≤ s.size ∧ i = .int .i64 k ∧ Bld wr w.heap.size w.heap.size (34 :: escB (s.data.toList.take k)) ∧ Below w.heap.size w wr) (fun i _ => s.size - (intOf i).toNat)
 case atStart => exact ⟨0, Nat.zero_le _, rfl, hB1, hbw1⟩
 case round =>
  obtain ⟨k, hk, rfl, hBr, hbr⟩ := hrel
  have hsz := hbr.size
  by_cases hlt : k < s.size
  ·have HN := Lib.hid (escB_snoc (byteOf hlt))
   have hle : (34 :: escB (s.data.toList.take k)).length + 3 ≤ 140737488355328 := by
    have := escB_len (s.data.toList.take k)
    rw [List.length_take] at this
    simp only [List.length_cons]
    omega
   have HU : Hid (∀ c : UInt8, escC c = if c.toNat = 34 ∨ c.toNat = 92 then [92, c] else [c]) := fun _ => rfl
   generalize hL : 34 :: escB (s.data.toList.take k) = L at *
   have HL := Lib.hid hL
   clear hL
   by_cases hq : (s[k].toNat : Int) = 34 ∨ (s[k].toNat : Int) = 92
   ·have HX : Hid (34 :: escB (s.data.toList.take (k + 1)) = L ++ [92] ++ [s[k]]) := by
     show _ = _
     rw [HN.out, HU.out, if_pos (by omega), ← HL.out]; simp
    by_cases hq1 : (s[k].toNat : Int) = 34
    ·have h1 : ((s[k].toNat : Int) == 34) = true := beq_iff_eq.2 hq1
     clear hq hq1
     go_wp2_with fail
     refine (writeByte_any w.heap.size w.heap.size L 92 _ hBr (by omega) hsz).mono ?_
     rintro e w2 ⟨rfl, hB2, hb2, _⟩
     have hs2 := hb2.size
     go_wp2_with fail
     refine (writeByte_any w.heap.size w.heap.size (L ++ [92]) s[k] _ hB2 (by simp; omega) (by omega)).mono ?_
     rintro e w3 ⟨rfl, hB3, hb3, _⟩
     go_wp2_with fail
     go_roundw
     case rel => exact ⟨k + 1, by omega, by go_num, by rw [HX.out]; exact hB3, (hbr.trans hb2).trans hb3⟩
     case measure => simp [intOf]; omega
    ·have h1 : ((s[k].toNat : Int) == 34) = false := beq_eq_false_iff_ne.2 hq1
     have h2 : ((s[k].toNat : Int) == 92) = true := beq_iff_eq.2 (by omega)
     clear hq hq1
     go_wp2_with fail
     refine (writeByte_any w.heap.size w.heap.size L 92 _ hBr (by omega) hsz).mono ?_
     rintro e w2 ⟨rfl, hB2, hb2, _⟩
     have hs2 := hb2.size
     go_wp2_with fail
     refine (writeByte_any w.heap.size w.heap.size (L ++ [92]) s[k] _ hB2 (by simp; omega) (by omega)).mono ?_
     rintro e w3 ⟨rfl, hB3, hb3, _⟩
     go_wp2_with fail
     go_roundw
     case rel => exact ⟨k + 1, by omega, by go_num, by rw [HX.out]; exact hB3, (hbr.trans hb2).trans hb3⟩
     case measure => simp [intOf]; omega
   ·have HX : Hid (34 :: escB (s.data.toList.take (k + 1)) = L ++ [s[k]]) := by
     show _ = _
     rw [HN.out, HU.out, if_neg (by omega), ← HL.out]; simp
    have h1 : ((s[k].toNat : Int) == 34) = false := beq_eq_false_iff_ne.2 (fun h => hq (Or.inl h))
    have h2 : ((s[k].toNat : Int) == 92) = false := beq_eq_false_iff_ne.2 (fun h => hq (Or.inr h))
    clear hq
    go_wp2_with fail
    refine (writeByte_any w.heap.size w.heap.size L s[k] _ hBr (by omega) hsz).mono ?_
    rintro e w3 ⟨rfl, hB3, hb3, _⟩
    go_wp2_with fail
    go_roundw
    case rel => exact ⟨k + 1, by omega, by go_num, by rw [HX.out]; exact hB3, hbr.trans hb3⟩
    case measure => simp [intOf]; omega
  ·obtain rfl : k = s.size := by omega
   have HT : Hid (34 :: escB (s.data.toList.take s.size) ++ [34] = quoteL s.data.toList) := by
    show _ = _
    unfold quoteL
    rw [List.take_of_length_le (by simp)]; rfl
   have hle : (34 :: escB (s.data.toList.take s.size)).length + 3 ≤ 140737488355328 := by
    have := escB_len (s.data.toList.take s.size)
    rw [List.length_take] at this
    simp only [List.length_cons]
    omega
   generalize 34 :: escB (s.data.toList.take s.size) = L at *
   go_wp2_with fail
   refine (writeByte_any w.heap.size w.heap.size L 34 _ hBr (by omega) hsz).mono ?_
   rintro e w2 ⟨rfl, hB2, hb2, _⟩
   have hs2 := hb2.size
   go_wp2_with fail
   refine (string_any w.heap.size w.heap.size (L ++ [34]) _ hB2 (by omega)).mono ?_
   rintro e w3 ⟨rfl, hB3, hb3, _⟩
   go_wp2_with fail
   go_ret
   refine ⟨?_, (hbr.trans hb2).trans hb3⟩
   rw [HT.out]; rfl
def quoteE (s : ByteArray) : ByteArray × Int := if 16384 < s.size then (⟨#[]⟩, 5) else if plainS s then (quoteS s, 0) else (⟨#[]⟩, 3)
theorem ret_si {a b : ByteArray} {c d : Int} (h : (a, c) = (b, d)) : Ending.returned (.tuple #[.string a, .int .i64 c]) = .returned (.tuple #[.string b, .int .i64 d]) := by injection h with h1 h2; rw [h1, h2]
set_option maxHeartbeats 400000 in
theorem quote_any (s : ByteArray) (w : World) (hs : s.size ≤ maxLen) : Calls Tryz.prog 154 #[.string s] w fun e w' => e = .returned (.tuple #[.string (quoteE s).1, .int .i64 (quoteE s).2]) ∧ Below w.heap.size w w' := by
 have hs0 := hs
 unfold maxLen at hs
 go_enter Tryz.func154, Tryz.ntmps154
 by_cases h1 : 16384 < s.size
 ·have HE : Hid (quoteE s = (⟨#[]⟩, 5)) := if_pos h1
  go_wp2_with fail
  go_ret2
  exact ⟨ret_si (by rw [HE.out]), Below.refl _ _⟩
 have HE : Hid (quoteE s = if plainS s then (quoteS s, 0) else (⟨#[]⟩, 3)) := if_neg h1
 go_wp2_with fail
 refine (printable_any s _ hs0).mono ?_
 rintro e w1 ⟨rfl, rfl⟩
 generalize plainS s = q at *
 cases q
 ·go_wp2_with fail
  go_ret2
  exact ⟨ret_si (by rw [HE.out]; rfl), Below.refl _ _⟩
 ·go_wp2_with fail
  refine (literal_any s _ (by omega)).mono ?_
  rintro e w2 ⟨rfl, hb2⟩
  go_wp2_with fail
  go_ret2
  exact ⟨ret_si (by rw [HE.out]; rfl), hb2⟩
theorem var_now {P : Program} {w w' : World} {n : String} {cs : Array Value} (h : w.var? P n = some cs) (hb : Below w.heap.size w w') : w'.var? P n = some cs := by
 unfold World.var? at h ⊢
 obtain ⟨g, hg, h1⟩ := Option.bind_eq_some_iff.1 h
 rw [hg]
 show (match w'.heap[g]? with | some (.cells cs _ _) => some cs | _ => none) = some cs
 have hlt : g < w.heap.size := by
  rcases Nat.lt_or_ge g w.heap.size with h' | h'
  ·exact h'
  ·rw [Array.getElem?_eq_none h'] at h1; cases h1
 rw [hb.block g hlt]
 exact h1
theorem bgrow (w : World) (k : Nat) (os : Array Obj) : Below w.heap.size w (Go.Sort.grow (w.drewN k) os) := by
 refine ⟨rfl, rfl, rfl, ?_, fun b hb => ?_⟩
 ·show w.heap.size ≤ (w.heap ++ os).size
  rw [Array.size_append]; omega
 ·show (w.heap ++ os)[b]? = w.heap[b]?
  rw [Array.getElem?_append_left hb]
structure Amb (w : World) : Prop where
 tab : Lib.TabIs Tryz.prog w "internal/strconv.uint64pow10" .u64 Lib.pow10Tab
theorem Amb.now {w w' : World} (h : Amb w) (hb : Below w.heap.size w w') : Amb w' := by
 first
  | (obtain ⟨h1, ⟨t, p, h2⟩, ⟨t', p', h3⟩⟩ := h; exact ⟨var_now h1 hb, ⟨t, p, var_now h2 hb⟩, ⟨t', p', var_now h3 hb⟩⟩)
  | (obtain ⟨h1⟩ := h; exact ⟨var_now h1 hb⟩)
def itoaS (n : Int) : ByteArray := ⟨(Lib.itoa n).toArray⟩
def trueS : ByteArray := ⟨#[116, 114, 117, 101]⟩
def falseS : ByteArray := ⟨#[102, 97, 108, 115, 101]⟩
def textV (v : Val) : ByteArray := if v.kind = 1 then (if v.n = 1 then trueS else falseS) else if v.kind = 2 then itoaS v.n else quoteS v.s
def textE (v : Val) : ByteArray × Int := if validV v then (textV v, 0) else (⟨#[]⟩, 1)
theorem valid3 {v : Val} (h : validV v = true) (h1 : v.kind ≠ 1) (h2 : v.kind ≠ 2) : v.kind = 3 ∧ v.n = 0 ∧ textB v.s = true := by
 unfold validV at h
 rw [if_neg h1, if_neg h2] at h
 split at h
 ·rename_i h3
  simp only [Bool.and_eq_true, decide_eq_true_eq] at h
  exact ⟨h3, h⟩
 ·cases h
theorem valid1 {v : Val} (h : validV v = true) (h1 : v.kind = 1) : (v.n = 0 ∨ v.n = 1) ∧ noS v.s = true := by
 unfold validV at h
 rw [if_pos h1] at h
 simpa using h
theorem valid2 {v : Val} (h : validV v = true) (h1 : v.kind = 2) : numB v.n = true ∧ noS v.s = true := by
 unfold validV at h
 rw [if_neg (by omega), if_pos h1] at h
 simpa using h
theorem text_size {s : ByteArray} (h : textB s = true) : s.size ≤ 200 ∧ plainS s = true := by
 unfold textB at h
 simp only [Bool.and_eq_true, decide_eq_true_eq] at h
 exact h
theorem quote_of_text {s : ByteArray} (h : textB s = true) : quoteE s = (quoteS s, 0) := by
 obtain ⟨h1, h2⟩ := text_size h
 unfold quoteE
 rw [if_neg (by omega), h2]; rfl
set_option maxHeartbeats 1000000 in
theorem textE_any (v : Val) (w : World) (hf : FitV v) (ha : Amb w) :
  Calls Tryz.prog 115 #[valV v] w fun e w' => e = .returned (.tuple #[.string (textE v).1, .int .i64 (textE v).2]) ∧ Below w.heap.size w w' := by
 have hb := bone w (.cells #[.int .i64 v.kind, .int .i64 v.n, .string v.s] 63)
 have hB := Blk.new w 63 #[.int .i64 v.kind, .int .i64 v.n, .string v.s]
 have ha1 := ha.now hb
 unfold valV
 go_enter Tryz.func115, Tryz.ntmps115
 go_wp2_with fail
 refine (validV_any v _ hf).mono ?_
 rintro e w2 ⟨rfl, hb2⟩
 have hB2 := hB.now hb2
 have hbw2 := bthen hb hb2
 have ha2 := ha1.now hb2
 obtain ⟨y0, y1, y2⟩ := hB2.c3
 generalize hq : validV v = q
 have HQ := Lib.hid hq
 clear hq
 cases q
 ·have HE : Hid (textE v = (⟨#[]⟩, 1)) := by show _ = _; unfold textE; rw [HQ.out]; rfl
  go_wp2_with fail
  go_ret2
  exact ⟨ret_si (by rw [HE.out]), hbw2⟩
 have HE : Hid (textE v = (textV v, 0)) := by show _ = _; unfold textE; rw [HQ.out]; rfl
 obtain ⟨k, n, s⟩ := v
 obtain ⟨g1, g2, g3⟩ := hf
 unfold Fit at g1 g2
 dsimp only at *
 by_cases k1 : k = 1
 ·subst k1
  rcases (valid1 HQ.out rfl).1 with hn | hn
  ·dsimp only at hn
   subst hn
   have HT : Hid (textV ⟨1, 0, s⟩ = falseS) := rfl
   go_wp2_with fail
   refine (Tryz.strconv_FormatBool _ _).mono ?_
   rintro e w3 ⟨rfl, rfl⟩
   go_wp2_with fail
   go_ret2
   exact ⟨ret_si (by rw [HE.out, HT.out]; rfl), hbw2⟩
  ·dsimp only at hn
   subst hn
   have HT : Hid (textV ⟨1, 1, s⟩ = trueS) := rfl
   go_wp2_with fail
   refine (Tryz.strconv_FormatBool _ _).mono ?_
   rintro e w3 ⟨rfl, rfl⟩
   go_wp2_with fail
   go_ret2
   exact ⟨ret_si (by rw [HE.out, HT.out]; rfl), hbw2⟩
 by_cases k2 : k = 2
 ·subst k2
  have HT : Hid (textV ⟨2, n, s⟩ = itoaS n) := rfl
  go_wp2_with fail
  refine (Tryz.strconv_Itoa n g2.1 g2.2 _ ha2.tab).mono ?_
  rintro e w3 ⟨rfl, kk, os, rfl⟩
  go_wp2_with fail
  go_ret2
  exact ⟨ret_si (by rw [HE.out, HT.out]; rfl), bthen hbw2 (bgrow w2 kk os)⟩
 ·obtain ⟨k3, n0, ht⟩ := valid3 HQ.out k1 k2
  dsimp only at k3 n0 ht
  subst k3 n0
  have HT : Hid (textV ⟨3, 0, s⟩ = quoteS s) := rfl
  have HU := Lib.hid (quote_of_text ht)
  clear k1 k2
  go_wp2_with fail
  refine (quote_any s _ g3).mono ?_
  rintro e w3 ⟨rfl, hb3⟩
  rw [HU.out]
  go_wp2_with fail
  go_ret2
  exact ⟨ret_si (by rw [HE.out, HT.out]), bthen hbw2 hb3⟩
def cellsV (v : Val) : List Value := [.int .i64 v.kind, .int .i64 v.n, .string v.s]
theorem cellsV_len (v : Val) : (cellsV v).length = 3 := rfl
theorem cellsV_one (v : Val) : ∀ u ∈ cellsV v, u.oneCell' = true := by intro u hu; simp [cellsV] at hu; rcases hu with rfl | rfl | rfl <;> rfl
def OwnV (w : World) (base : Nat) (v : Value) (vs : List Val) : Prop := OwnW 3 cellsV w base 63 v vs
theorem appVals : AppInfo Tryz.prog 26 63 3 := AppInfo.mk' (z := .agg #[.int .i64 0, .int .i64 0, .string ⟨#[]⟩]) (bytes := 32) Tryz.underlying26 (by kernel_rfl) (by decide) rfl (by decide)
theorem OwnV.now {w w' : World} {base : Nat} {v : Value} {vs : List Val} (h : OwnV w base v vs) (hb : Below w.heap.size w w') : OwnV w' base v vs := OwnW.now h hb
theorem OwnV.sl {w : World} {base : Nat} {v : Value} {vs : List Val} (h : OwnV w base v vs) (hf : ∀ x ∈ vs, FitV x) : SlV (Lt w.heap.size) w v vs := OwnW.sl h cellsV_len (fun _ _ x hx => ⟨rfl, hf x hx⟩)
theorem SlV.fits {D : Nat → Prop} {w : World} {v : Value} {vs : List Val} (h : SlV D w v vs) : ∀ x ∈ vs, FitV x := by
 obtain ⟨A, c, rfl, h1, h2, h⟩ := h.open_
 intro z hz
 obtain ⟨k, hk, rfl⟩ := List.mem_iff_getElem.1 hz
 obtain ⟨b, o, y, _, _, hy, hs, _⟩ := h.at_ hk
 rw [List.getElem?_eq_getElem hk] at hy
 injection hy with hy
 rw [hy]; exact hs
def AsksV (k : FuncId) (w : World) (xs : List Val) (p : Val → Bool) : Prop :=
 ∀ (x : Val) (w1 : World), x ∈ xs → FitV x → Below w.heap.size w w1 → Calls Tryz.prog k #[valV x] w1 fun e w2 => e = .returned (.bool (p x)) ∧ Below w1.heap.size w1 w2
set_option maxHeartbeats 400000 in
theorem indexFuncV (k : FuncId) (eg : ∀ args w, (callFunc k args).run Tryz.prog w = .ok (.enter k args) w) (tv : Value) (ts : List Val) (p : Val → Bool) (w : World) (ht : SlV (Lt w.heap.size) w tv ts) (hf : AsksV k w ts p) :
  Calls Tryz.prog 142 #[tv, .func (.func k) #[] #[]] w fun e w' => ∃ z : Int, e = .returned (.int .i64 z) ∧ decide (0 ≤ z) = ts.any p ∧ Below w.heap.size w w' := by
 obtain ⟨A, c, rfl, h1, h2, ht⟩ := ht.open_
 have HF := Lib.hid hf
 clear hf
 go_enter Tryz.func142, Tryz.ntmps142
 go_wp2_with fail
 go_loopw [8] (fun i wr => ∃ j : Nat, j ≤ ts.length ∧ i = .int .i64 j ∧ (∀ q t, q < j → ts[q]? = some t → p t = false) ∧ Below w.heap.size w wr) (fun i _ => ts.length - (intOf i).toNat)
 case atStart => exact ⟨0, Nat.zero_le _, rfl, fun q _ h => absurd h (by omega), Below.refl _ _⟩
 case round =>
  obtain ⟨j, hj, rfl, hp, hb⟩ := hrel
  have HP := Lib.hid hp
  clear hp
  by_cases hlt : j < ts.length
  ·obtain ⟨b, o, t, rfl, hD, hx, hf, c0, c1, c2⟩ := (ht.now hb).at_ hlt
   have hcall := HF.out t wr (List.mem_of_getElem? hx) hf hb
   have HX := Lib.hid hx
   clear hx
   generalize hq : p t = q at *
   have HQ := Lib.hid hq
   unfold valV at hcall
   have HC := Lib.hid hcall
   clear hcall hq
   cases q
   ·go_wp2_with (go_at_fn k; refine HC.out.mono ?_; rintro e w' ⟨rfl, hb'⟩)
    go_roundw
    case rel =>
     refine ⟨j + 1, by omega, by go_num, fun q y hq hy => ?_, bthen hb hb'⟩
     by_cases e : q = j
     ·subst e; rw [HX.out] at hy; injection hy with hy; subst hy; exact HQ.out
     ·exact HP.out q y (by omega) hy
    case measure => simp [intOf]; omega
   ·go_wp2_with (go_at_fn k; refine HC.out.mono ?_; rintro e w' ⟨rfl, hb'⟩)
    go_ret
    refine ⟨_, rfl, ?_, bthen hb hb'⟩
    rw [List.any_eq_true.2 ⟨t, List.mem_of_getElem? HX.out, HQ.out⟩]
    simp
  ·go_wp2_with fail
   go_ret
   refine ⟨_, rfl, ?_, hb⟩
   rw [any_false_of _ ts (fun q y hq hy => HP.out q y (by omega) hy)]
   simp
theorem containsFuncV (k : FuncId) (eg : ∀ args w, (callFunc k args).run Tryz.prog w = .ok (.enter k args) w) (tv : Value) (ts : List Val) (p : Val → Bool) (w : World) (ht : SlV (Lt w.heap.size) w tv ts) (hf : AsksV k w ts p) :
  Calls Tryz.prog 104 #[tv, .func (.func k) #[] #[]] w fun e w' => e = .returned (.bool (ts.any p)) ∧ Below w.heap.size w w' := by
 have HC := Lib.hid (indexFuncV k eg tv ts p w ht hf)
 clear hf ht
 go_enter Tryz.func104, Tryz.ntmps104
 go_wp2_with (go_at_call 142; refine HC.out.mono ?_; rintro e w' ⟨z, rfl, hz, hb'⟩)
 go_ret
 exact ⟨rfl, hb'⟩
set_option maxHeartbeats 400000 in
theorem valid1_any (v : Val) (w : World) (hf : FitV v) : Calls Tryz.prog 135 #[valV v] w fun e w' => e = .returned (.bool (!validV v)) ∧ Below w.heap.size w w' := by
 have hb := bone w (.cells #[.int .i64 v.kind, .int .i64 v.n, .string v.s] 63)
 unfold valV
 go_enter Tryz.func135, Tryz.ntmps135
 go_wp2_with fail
 refine (validV_any v _ hf).mono ?_
 rintro e w2 ⟨rfl, hb2⟩
 generalize hq : validV v = q
 have HQ := Lib.hid hq
 clear hq
 go_wp2_with fail
 go_ret
 exact ⟨ret_bool (by rw [HQ.out]), bthen hb hb2⟩
theorem any_not_allV (l : List Val) : (l.any fun x => !validV x) = !l.all validV := by
 induction l with
 | nil => rfl
 | cons a m ih => simp [List.any_cons, List.all_cons, ih]
def okB (l : List Var) (vs : List Val) : Bool := varsB l && vs.all validV
set_option maxHeartbeats 400000 in
theorem validVs_any (l : List Var) (vs : List Val) (u v : Value) (w : World) (h : SlX (Lt w.heap.size) w u l) (hv : SlV (Lt w.heap.size) w v vs) (hl : l.length ≤ 1000000) :
  Calls Tryz.prog 92 #[u, v] w fun e w' => e = .returned (.bool (okB l vs)) ∧ Below w.heap.size w w' := by
 have eg : ∀ args w, (callFunc 135 args).run Tryz.prog w = .ok (.enter 135 args) w := enters_of Tryz.func135 (by kernel_rfl) rfl
 go_enter Tryz.func92, Tryz.ntmps92
 go_wp2_with fail
 refine (validVars_any l u _ h hl).mono ?_
 rintro e w2 ⟨rfl, hb2⟩
 have HO : Hid (okB l vs = (varsB l && vs.all validV)) := rfl
 generalize varsB l = q at *
 cases q
 ·go_wp2_with fail
  go_ret
  exact ⟨ret_bool (by rw [HO.out]; rfl), hb2⟩
 ·go_wp2_with fail
  refine (containsFuncV _ eg v vs (fun x => !validV x) _ (hv.now hb2) (fun x w1 _ hf _ => valid1_any x w1 hf)).mono ?_
  rintro e w3 ⟨rfl, hb3⟩
  rw [any_not_allV]
  generalize vs.all validV = p at *
  go_wp2_with fail
  go_ret
  exact ⟨ret_bool (by rw [HO.out]; simp), bthen hb2 hb3⟩
set_option maxHeartbeats 400000 in
theorem validAll_ref (vs : List Val) (v : Value) (w : World) (hv : SlV (Lt w.heap.size) w v vs) :
  Calls Tryz.prog 123 #[v] w fun e w' => e = .returned (.bool (vs.all validV)) ∧ Below w.heap.size w w' := by
 obtain ⟨A, c, rfl, h1, h2, ht⟩ := hv.open_
 clear hv
 go_enter Tryz.func123, Tryz.ntmps123
 go_wp2_with fail
 go_loopw [3] (fun i wr => ∃ j : Nat, j ≤ vs.length ∧ i = .int .i64 j ∧ (∀ q t, q < j → vs[q]? = some t → validV t = true) ∧ Below w.heap.size w wr) (fun i _ => vs.length - (intOf i).toNat)
 case atStart => exact ⟨0, Nat.zero_le _, rfl, fun q _ h => absurd h (by omega), Below.refl _ _⟩
 case round =>
  obtain ⟨j, hj, rfl, hp, hb⟩ := hrel
  have HP := Lib.hid hp
  clear hp
  by_cases hlt : j < vs.length
  ·obtain ⟨b, o, t, rfl, hD, hx, hf, c0, c1, c2⟩ := (ht.now hb).at_ hlt
   have HX := Lib.hid hx
   clear hx
   have hcall := validV_ref t wr hf
   unfold valV at hcall
   generalize hq : validV t = q at *
   have HQ := Lib.hid hq
   have HC := Lib.hid hcall
   clear hcall hq
   cases q
   ·have HE : Hid (vs.all validV = false) := by
     show _ = _
     rw [List.all_eq_false]
     exact ⟨t, List.mem_of_getElem? HX.out, by rw [HQ.out]; simp⟩
    go_wp2_with (go_at_call 158; refine HC.out.mono ?_; rintro e w' ⟨rfl, hb'⟩)
    go_ret
    exact ⟨ret_bool HE.out.symm, bthen hb hb'⟩
   ·go_wp2_with (go_at_call 158; refine HC.out.mono ?_; rintro e w' ⟨rfl, hb'⟩)
    go_roundw
    case rel =>
     refine ⟨j + 1, by omega, by go_num, fun q y hq hy => ?_, bthen hb hb'⟩
     by_cases e : q = j
     ·subst e; rw [HX.out] at hy; injection hy with hy; subst hy; exact HQ.out
     ·exact HP.out q y (by omega) hy
    case measure => simp [intOf]; omega
  ·have HE : Hid (vs.all validV = true) := by
    show _ = _
    rw [List.all_eq_true]
    intro x hx
    obtain ⟨q, hq, rfl⟩ := List.mem_iff_getElem.1 hx
    exact HP.out q _ (by omega) (List.getElem?_eq_getElem hq)
   go_wp2_with fail
   go_ret
   exact ⟨ret_bool HE.out.symm, hb⟩
def firstV (l : List Var) : List Val := l.map fun x => nthV x 0
theorem vars_each {l : List Var} (h : varsB l = true) {k : Nat} {x : Var} (hx : l[k]? = some x) : varB x = true := by
 unfold varsB at h
 simp only [Bool.and_eq_true] at h
 exact List.all_eq_true.1 h.1.2 x (List.mem_of_getElem? hx)
theorem vars_len {l : List Var} (h : varsB l = true) : l.length ≤ 8 := by
 unfold varsB at h
 simp only [Bool.and_eq_true, decide_eq_true_eq] at h
 exact h.1.1
def firstE (l : List Var) : List Val × Int := if varsB l then (firstV l, 0) else ([], 1)
def RetVE (vs : List Val) (z : Int) (w : World) (e : Ending) (w' : World) : Prop := ∃ v, e = .returned (.tuple #[v, .int .i64 z]) ∧ SlV (Lt w'.heap.size) w' v vs ∧ Below w.heap.size w w'
def RetV (vs : List Val) (w : World) (e : Ending) (w' : World) : Prop := ∃ v, e = .returned v ∧ SlV (Lt w'.heap.size) w' v vs ∧ Below w.heap.size w w'
def assignedB (l : List Var) (vs : List Val) : Bool := decide (vs.length = l.length) && (l.zip vs).all fun p => decide (0 ≤ placeV p.1 p.2)
def PlacedTo (l : List Var) (vs : List Val) (k : Nat) : Prop := ∀ (j : Nat) x v, j < k → l[j]? = some x → vs[j]? = some v → 0 ≤ placeV x v
theorem assigned_len {l : List Var} {vs : List Val} (h : vs.length ≠ l.length) : assignedB l vs = false := by
 unfold assignedB
 rw [decide_eq_false h]; rfl
theorem assigned_yes {l : List Var} {vs : List Val} (h : vs.length = l.length) (hp : PlacedTo l vs l.length) : assignedB l vs = true := by
 unfold assignedB
 rw [decide_eq_true h, Bool.true_and, List.all_eq_true]
 rintro ⟨x, v⟩ hm
 obtain ⟨j, hj, e⟩ := List.mem_iff_getElem.1 hm
 rw [List.getElem_zip] at e
 injection e with e1 e2
 rw [List.length_zip] at hj
 exact decide_eq_true (hp j x v (by omega) (by rw [← e1]; exact List.getElem?_eq_getElem (by omega)) (by rw [← e2]; exact List.getElem?_eq_getElem (by omega)))
theorem assigned_no {l : List Var} {vs : List Val} {j : Nat} {x : Var} {v : Val} (hx : l[j]? = some x) (hv : vs[j]? = some v) (h : placeV x v < 0) : assignedB l vs = false := by
 unfold assignedB
 rw [Bool.and_eq_false_iff]
 right
 rw [List.all_eq_false]
 refine ⟨(x, v), List.mem_of_getElem? (i := j) ?_, by simp; omega⟩
 rw [List.getElem?_zip_eq_some]
 exact ⟨hx, hv⟩
theorem assigned_at {l : List Var} {vs : List Val} (h : assignedB l vs = true) : vs.length = l.length ∧ PlacedTo l vs l.length := by
 unfold assignedB at h
 simp only [Bool.and_eq_true, decide_eq_true_eq] at h
 refine ⟨h.1, fun j x v _ hx hv => ?_⟩
 have := List.all_eq_true.1 h.2 (x, v) (List.mem_of_getElem? (i := j) (by rw [List.getElem?_zip_eq_some]; exact ⟨hx, hv⟩))
 simpa using this
def nextFrom (l : List Var) (vs : List Val) : Nat → List Val → List Val × Bool
 | 0, _ => ([], false)
 | i + 1, out => match l[i]?, vs[i]? with
  | some x, some v => if placeV x v + 1 < sizeV x then (out.set i (nthV x (placeV x v + 1)), true) else nextFrom l vs i (out.set i (nthV x 0))
  | _, _ => ([], false)
def nextV (l : List Var) (vs : List Val) : List Val × Bool := nextFrom l vs l.length vs
def nextE (l : List Var) (vs : List Val) : List Val × Bool × Int :=
 if okB l vs then (if vs.length ≠ l.length then ([], false, 29) else if assignedB l vs then ((nextV l vs).1, (nextV l vs).2, 0) else ([], false, 11)) else ([], false, 1)
def inAllE (l : List Var) (vs : List Val) : Bool × Int := if okB l vs then (assignedB l vs, 0) else (false, 1)
theorem ok_vars {l : List Var} {vs : List Val} (h : okB l vs = true) : varsB l = true ∧ ∀ v ∈ vs, validV v = true := by
 unfold okB at h
 simp only [Bool.and_eq_true] at h
 exact ⟨h.1, List.all_eq_true.1 h.2⟩
theorem flat3_set (xs : List Val) : ∀ (k : Nat) (y : Val), k < xs.length → flat cellsV (xs.set k y) = (((flat cellsV xs).set (k * 3) (.int .i64 y.kind)).set (k * 3 + 1) (.int .i64 y.n)).set (k * 3 + 2) (.string y.s) := by
 induction xs with
 | nil => intro k y h; simp at h
 | cons x xs ih =>
  intro k y h
  cases k with
  | zero => rfl
  | succ k =>
   have e : flat cellsV (x :: xs) = .int .i64 x.kind :: .int .i64 x.n :: .string x.s :: flat cellsV xs := rfl
   have e2 : flat cellsV ((x :: xs).set (k + 1) y) = .int .i64 x.kind :: .int .i64 x.n :: .string x.s :: flat cellsV (xs.set k y) := rfl
   rw [e, e2, ih k y (by simpa using h)]
   have a0 : (k + 1) * 3 = k * 3 + 1 + 1 + 1 := by omega
   have a1 : (k + 1) * 3 + 1 = k * 3 + 1 + 1 + 1 + 1 := by omega
   have a2 : (k + 1) * 3 + 2 = k * 3 + 2 + 1 + 1 + 1 := by omega
   rw [a1, a2, a0]
   simp only [List.set_cons_succ]
theorem OwnV.set_ {w : World} {base g cap : Nat} {vs : List Val} (h : OwnV w base (.slice (some ⟨g, 0, none⟩) vs.length cap) vs) {k : Nat} (hk : k < vs.length) (y : Val) :
  OwnV (((w.setCell ⟨g, k * 3, none⟩ (.int .i64 y.kind)).setCell ⟨g, k * 3 + 1, none⟩ (.int .i64 y.n)).setCell ⟨g, k * 3 + 2, none⟩ (.string y.s)) base (.slice (some ⟨g, 0, none⟩) vs.length cap) (vs.set k y) := by
 have := (((World.ownsRow.stored h (k * 3) (.int .i64 y.kind)).1.stored (k * 3 + 1) (.int .i64 y.n)).1.stored (k * 3 + 2) (.string y.s)).1
 unfold OwnV OwnW
 rw [List.length_set, flat3_set vs k y hk]
 exact this
theorem OwnV.cells {w : World} {base g cap : Nat} {vs : List Val} (h : OwnV w base (.slice (some ⟨g, 0, none⟩) vs.length cap) vs) {k : Nat} (hk : k < vs.length) :
  ∃ x : Val, w.cell? ⟨g, k * 3, none⟩ = some (.int .i64 x.kind) ∧ w.cell? ⟨g, k * 3 + 1, none⟩ = some (.int .i64 x.n) ∧ w.cell? ⟨g, k * 3 + 2, none⟩ = some (.string x.s) ∧ w.frozen? ⟨g, k * 3, none⟩ = false ∧ w.frozen? ⟨g, k * 3 + 1, none⟩ = false ∧ w.frozen? ⟨g, k * 3 + 2, none⟩ = false := by
 have hx := List.getElem?_eq_getElem hk
 refine ⟨vs[k], ?_, ?_, ?_, World.ownsRow.frozenAt h _, World.ownsRow.frozenAt h _, World.ownsRow.frozenAt h _⟩
 ·rw [World.ownsRow.cellAt h (k * 3) (by omega)]; exact flat_get cellsV_len vs k 0 _ hx (by omega)
 ·rw [World.ownsRow.cellAt h (k * 3 + 1) (by omega)]; exact flat_get cellsV_len vs k 1 _ hx (by omega)
 ·rw [World.ownsRow.cellAt h (k * 3 + 2) (by omega)]; exact flat_get cellsV_len vs k 2 _ hx (by omega)
theorem bput3 {B : Nat} {w w1 : World} {g : Nat} (h : Below B w w1) (hg : B ≤ g) (i j k : Nat) (x y z : Value) :
  Below B w (((w1.setCell ⟨g, i, none⟩ x).setCell ⟨g, j, none⟩ y).setCell ⟨g, k, none⟩ z) :=
 ((h.setCell (p := ⟨g, i, none⟩) hg x).setCell (p := ⟨g, j, none⟩) hg y).setCell (p := ⟨g, k, none⟩) hg z
set_option maxHeartbeats 1000000 in
theorem assigned_any (l : List Var) (vs : List Val) (u v : Value) (w : World) (h : SlX (Lt w.heap.size) w u l) (hv : SlV (Lt w.heap.size) w v vs) (hl : varsB l = true) :
  Calls Tryz.prog 93 #[u, v] w fun e w' => e = .returned (.bool (assignedB l vs)) ∧ Below w.heap.size w w' := by
 obtain ⟨A, c, rfl, h1, h2, ht⟩ := h.open_
 obtain ⟨Av, cv, rfl, h1v, h2v, htv⟩ := hv.open_
 clear h hv
 have HQ := Lib.hid hl
 have h8 := vars_len hl
 clear hl
 go_enter Tryz.func93, Tryz.ntmps93
 by_cases hlen : vs.length = l.length
 rotate_left
 ·have HE := Lib.hid (assigned_len hlen)
  have h3 : ((vs.length : Int) != (l.length : Int)) = true := by simp; omega
  clear hlen
  go_wp2_with fail
  go_ret
  exact ⟨ret_bool HE.out.symm, Below.refl _ _⟩
 have h3 : ((vs.length : Int) != (l.length : Int)) = false := by simp; omega
 go_wp2_with fail
 go_loopw [14] (fun i wr => ∃ j : Nat, j ≤ l.length ∧ i = .int .i64 j ∧ PlacedTo l vs j ∧ Below w.heap.size w wr) (fun i _ => l.length - (intOf i).toNat)
 case atStart => exact ⟨0, Nat.zero_le _, rfl, fun j _ _ h => absurd h (by omega), Below.refl _ _⟩
 case round =>
  obtain ⟨j, hj, rfl, hp, hb⟩ := hrel
  have HP := Lib.hid hp
  clear hp
  by_cases hlt : j < l.length
  ·obtain ⟨b, o, x, iv, rfl, hD, hx, hvar, hiv, c0, c1, c2, c3, c4⟩ := (ht.now hb).at_ hlt
   obtain ⟨A2, k2, rfl, g1, g2, hiv⟩ := hiv.open_
   have hb1 := bone wr (.cells #[.string x.name, .int .i64 x.kind, .int .i64 x.low, .int .i64 x.high, .slice A2 x.items.length k2] 117)
   have hB1 := Blk.new wr 117 #[.string x.name, .int .i64 x.kind, .int .i64 x.low, .int .i64 x.high, .slice A2 x.items.length k2]
   have hvar1 := hvar.now hb1
   have hbw1 := bthen hb hb1
   obtain ⟨bv, ov, y, rfl, hDv, hy, hfy, d0, d1, d2⟩ := (htv.now hbw1).at_ (k := j) (by omega)
   have HX := Lib.hid hx
   have HY := Lib.hid hy
   have htm := tame_of (vars_each HQ.out hx)
   clear hx hy
   have HC := Lib.hid (place_any x y _ (wr.alloc (.cells #[.string x.name, .int .i64 x.kind, .int .i64 x.low, .int .i64 x.high, .slice A2 x.items.length k2] 117)).drew (hvar1.now (Below.refl _ _).drew) htm hfy)
   unfold valV at HC
   have i1 : (0 : Int) ≤ j := by omega
   have i2 : (j : Int) < (vs.length : Int) := by omega
   generalize hz : placeV x y = z at *
   have HZ := Lib.hid hz
   clear hz
   go_wp2_with fail
   go_region_with (go_at_call 137; refine HC.out.mono ?_; rintro e w3 ⟨rfl, hb3⟩)
   all_goals
    have hbw3 := bthen hbw1.drew hb3
    by_cases hz : z < 0
    ·have HE := Lib.hid (assigned_no HX.out HY.out (by rw [HZ.out]; exact hz))
     go_wp2_with fail
     go_ret
     exact ⟨ret_bool HE.out.symm, hbw3⟩
    ·go_wp2_with fail
     refine ⟨⟨_, _, _, _, ⟨j + 1, by omega, by simp, fun q a b hq ha hb' => ?_⟩, rfl, rfl, rfl, rfl⟩, by simp [intOf]; omega⟩
     by_cases e : q = j
     ·subst e
      rw [HX.out] at ha; rw [HY.out] at hb'
      injection ha with ha; injection hb' with hb'
      subst ha hb'
      rw [HZ.out]; omega
     ·exact HP.out q a b (by omega) ha hb'
  ·obtain rfl : j = l.length := by omega
   have HE := Lib.hid (assigned_yes hlen HP.out)
   go_wp2_with fail
   go_ret
   exact ⟨ret_bool HE.out.symm, hb⟩
def Asks1 {α : Type} (k : FuncId) (cap : Array Value) (B : Nat) (w : World) (xs : List α) (IsA : (Nat → Prop) → World → Value → α → Prop) (p : α → Bool) : Prop :=
 ∀ (x : α) (v : Value) (w1 : World), x ∈ xs → Below B w w1 → B ≤ w1.heap.size → IsA (Lt w1.heap.size) w1 v x →
  Calls Tryz.prog k (#[v] ++ cap) w1 fun e w2 => e = .returned (.bool (p x)) ∧ Below w1.heap.size w1 w2
def firstAt {α : Type} (p : α → Bool) (xs : List α) : Int := match xs.findIdx? p with | some i => (i : Int) | none => -1
theorem firstAt_hit {α : Type} (p : α → Bool) (xs : List α) (j : Nat) (x : α) (hx : xs[j]? = some x) (h : p x = true) (hn : ∀ q y, q < j → xs[q]? = some y → p y = false) : firstAt p xs = j := by
 have hj : j < xs.length := by
  rcases Nat.lt_or_ge j xs.length with h | h
  ·exact h
  ·rw [List.getElem?_eq_none h] at hx; cases hx
 have : xs.findIdx? p = some j := by
  rw [List.findIdx?_eq_some_iff_getElem]
  refine ⟨hj, ?_, fun q hq => ?_⟩
  ·rw [List.getElem?_eq_getElem hj] at hx; injection hx with hx; rw [hx]; exact h
  ·have := hn q _ hq (List.getElem?_eq_getElem (by omega)); simpa using this
 unfold firstAt; rw [this]
theorem firstAt_miss {α : Type} (p : α → Bool) (xs : List α) (hn : ∀ q y, q < xs.length → xs[q]? = some y → p y = false) : firstAt p xs = -1 := by
 have : xs.findIdx? p = none := by
  rw [List.findIdx?_eq_none_iff]
  intro x hx
  obtain ⟨q, hq, rfl⟩ := List.mem_iff_getElem.1 hx
  exact hn q _ hq (List.getElem?_eq_getElem hq)
 unfold firstAt; rw [this]
theorem firstAt_any {α : Type} (p : α → Bool) (xs : List α) : decide (0 ≤ firstAt p xs) = xs.any p := by
 unfold firstAt
 cases h : xs.findIdx? p with
 | none =>
  rw [List.findIdx?_eq_none_iff] at h
  rw [Bool.eq_iff_iff]
  simp
  exact fun x hx => by have := h x hx; simp [this]
 | some i =>
  rw [List.findIdx?_eq_some_iff_getElem] at h
  obtain ⟨h1, h2, _⟩ := h
  rw [Bool.eq_iff_iff]
  simp
  exact ⟨_, List.getElem_mem h1, h2⟩
def IsI (_ : Nat → Prop) (_ : World) (v : Value) (z : Int) : Prop := v = .int .i64 z ∧ Fit z
set_option maxHeartbeats 400000 in
theorem indexFuncI (k : FuncId) (eg : ∀ args w, (callFunc k args).run Tryz.prog w = .ok (.enter k args) w) (cap : Array Value) (tv : Value) (ts : List Int) (p : Int → Bool) (w : World) (ht : SlI (Lt w.heap.size) w tv ts)
  (hf : Asks1 k cap w.heap.size w ts IsI p) :
  Calls Tryz.prog 160 #[tv, .func (.func k) #[] cap] w fun e w' => e = .returned (.int .i64 (firstAt p ts)) ∧ Below w.heap.size w w' := by
 obtain ⟨A, c, rfl, h1, h2, ht⟩ := ht.open_
 have HF := Lib.hid hf
 clear hf
 go_enter Tryz.func160, Tryz.ntmps160
 go_wp2_with fail
 go_loopw [8] (fun i wr => ∃ j : Nat, j ≤ ts.length ∧ i = .int .i64 j ∧ (∀ q t, q < j → ts[q]? = some t → p t = false) ∧ Below w.heap.size w wr) (fun i _ => ts.length - (intOf i).toNat)
 case atStart => exact ⟨0, Nat.zero_le _, rfl, fun q _ h => absurd h (by omega), Below.refl _ _⟩
 case round =>
  obtain ⟨j, hj, rfl, hp, hb⟩ := hrel
  have hsz := hb.size
  have HP := Lib.hid hp
  clear hp
  by_cases hlt : j < ts.length
  ·obtain ⟨b, o, t, rfl, hD, hx, hf, c0⟩ := (ht.below hb hsz).at_ hlt
   have hcall := HF.out t (.int .i64 t) wr (List.mem_of_getElem? hx) hb hsz ⟨rfl, hf⟩
   have HX := Lib.hid hx
   clear hx
   cases hq : p t with
   | true =>
    rw [hq] at hcall
    have HC := Lib.hid hcall
    have HQ := Lib.hid hq
    clear hcall hq
    go_wp2_with (go_at_fn k; refine HC.out.mono ?_; rintro e w' ⟨rfl, hb'⟩)
    go_ret
    exact ⟨ret_int (firstAt_hit p ts j t HX.out HQ.out HP.out).symm, below_step hb hb' hsz⟩
   | false =>
    rw [hq] at hcall
    have HC := Lib.hid hcall
    have HQ := Lib.hid hq
    clear hcall hq
    go_wp2_with (go_at_fn k; refine HC.out.mono ?_; rintro e w' ⟨rfl, hb'⟩)
    go_roundw
    case rel =>
     refine ⟨j + 1, by omega, by go_num, fun q y hq hy => ?_, below_step hb hb' hsz⟩
     by_cases e : q = j
     ·subst e; rw [HX.out] at hy; injection hy with hy; subst hy; exact HQ.out
     ·exact HP.out q y (by omega) hy
    case measure => simp [intOf]; omega
  ·go_wp2_with fail
   go_ret
   exact ⟨ret_int (firstAt_miss p ts (fun q y hq hy => HP.out q y (by omega) hy)).symm, hb⟩
set_option maxHeartbeats 400000 in
theorem containsFuncI (k : FuncId) (eg : ∀ args w, (callFunc k args).run Tryz.prog w = .ok (.enter k args) w) (cap : Array Value) (tv : Value) (ts : List Int) (p : Int → Bool) (w : World) (ht : SlI (Lt w.heap.size) w tv ts)
  (hf : Asks1 k cap w.heap.size w ts IsI p) :
  Calls Tryz.prog 131 #[tv, .func (.func k) #[] cap] w fun e w' => e = .returned (.bool (ts.any p)) ∧ Below w.heap.size w w' := by
 have HC := Lib.hid (indexFuncI k eg cap tv ts p w ht hf)
 have HE := Lib.hid (firstAt_any p ts)
 clear hf ht
 generalize firstAt p ts = r at HC HE
 go_enter Tryz.func131, Tryz.ntmps131
 go_wp2_with (go_at_call 160; refine HC.out.mono ?_; rintro e w' ⟨rfl, hb'⟩)
 go_ret
 exact ⟨ret_bool HE.out, hb'⟩
theorem cloneI (v : Value) (zs : List Int) (w : World) (h : SlI (Lt w.heap.size) w v zs) (hz : zs.length * 8 ≤ 140737488355328) :
  Calls Tryz.prog 64 #[v] w fun e w' => ∃ v', e = .returned v' ∧ w'.ownsRow w.heap.size 3 1 v' zs.length (zs.map (Value.int .i64)) ∧ Below w.heap.size w w' := by
 obtain ⟨A, c, rfl, h1, h2, h⟩ := h.open_
 by_cases hn : 0 < zs.length
 ·obtain ⟨b, o, rfl, hD, _, hc⟩ := h.cells hn
  refine (Tryz.slices_Clone_int b o zs.length c zs w (Nat.le_refl _) hz hc).mono ?_
  rintro e w' ⟨v', rfl, ho, _, hb⟩
  rw [List.take_of_length_le (Nat.le_refl _)] at ho
  exact ⟨v', rfl, ho, hb⟩
 ·have : zs = [] := List.eq_nil_of_length_eq_zero (by omega)
  subst this
  rcases A with _ | a
  ·refine (Tryz.slices_Clone_int_nil _ _ w).mono ?_
   rintro e w' ⟨rfl, rfl⟩
   exact ⟨_, rfl, World.ownsRow_nil _ _ _ _, Below.refl _ _⟩
  ·refine (Tryz.slices_Clone_int_zero a c w).mono ?_
   rintro e w' ⟨v', rfl, ho, _, hb⟩
   exact ⟨v', rfl, ho, hb⟩
theorem equalI (u v : Value) (xs ys : List Int) (w : World) (hu : SlI (Lt w.heap.size) w u xs) (hv : SlI (Lt w.heap.size) w v ys) :
  Calls Tryz.prog 38 #[u, v] w fun e w' => e = .returned (.bool (xs == ys)) ∧ ∃ q, w' = w.drewN q := by
 obtain ⟨A, c, rfl, h1, h2, hu⟩ := hu.open_
 obtain ⟨A', c', rfl, h1', h2', hv⟩ := hv.open_
 by_cases hn : 0 < xs.length ∧ 0 < ys.length
 ·obtain ⟨b, o, rfl, hD, _, hc⟩ := hu.cells hn.1
  obtain ⟨b', o', rfl, hD', _, hc'⟩ := hv.cells hn.2
  refine (Tryz.slices_Equal_int b o xs.length c b' o' ys.length c' xs ys w (Nat.le_refl _) (Nat.le_refl _) (by omega) (by omega) hc hc').mono ?_
  rintro e w' ⟨rfl, hq⟩
  rw [List.take_of_length_le (Nat.le_refl _), List.take_of_length_le (Nat.le_refl _)]
  exact ⟨rfl, hq⟩
 ·by_cases hl : xs.length = ys.length
  ·have e1 : xs = [] := List.eq_nil_of_length_eq_zero (by omega)
   have e2 : ys = [] := List.eq_nil_of_length_eq_zero (by omega)
   subst e1 e2
   refine (Tryz.slices_Equal_int_empty A A' c 0 c' w (by omega)).mono ?_
   rintro e w' ⟨rfl, rfl⟩
   exact ⟨rfl, 0, rfl⟩
  ·refine (Tryz.slices_Equal_int_lens A A' xs.length c ys.length c' w hl).mono ?_
   rintro e w' ⟨rfl, rfl⟩
   refine ⟨ret_bool ?_, 0, rfl⟩
   symm
   rw [beq_eq_false_iff_ne]
   exact fun e => hl (by rw [e])
theorem maxI (v : Value) (xs : List Int) (w : World) (hu : SlI (Lt w.heap.size) w v xs) (hn : 0 < xs.length) :
  Calls Tryz.prog 133 #[v] w fun e w' => e = .returned (.int .i64 (Lib.maxOf xs)) ∧ w' = w := by
 obtain ⟨A, c, rfl, h1, h2, hu⟩ := hu.open_
 obtain ⟨b, o, rfl, hD, _, hc⟩ := hu.cells hn
 refine (Tryz.slices_Max_int b o xs.length c xs w hn (Nat.le_refl _) (by omega) hc).mono ?_
 rintro e w' ⟨rfl, hq⟩
 rw [List.take_of_length_le (Nat.le_refl _)]
 exact ⟨rfl, hq⟩
end Go.Proofs.YtlmenhjlgmejkaaGreatDoor
