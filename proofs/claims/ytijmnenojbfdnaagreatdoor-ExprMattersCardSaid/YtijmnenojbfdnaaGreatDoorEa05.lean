/- Texts of this seat, merged. -/
import Derived.Test.YtijmnenojbfdnaaGreatDoorProg
import Derived.Maps.OwnOps
import Derived.Maps.OwnSet
import Derived.Maps.Views
import Derived.StringKeys
import Derived.Test.YtijmnenojbfdnaaGreatDoorEa01
import Derived.Test.YtijmnenojbfdnaaGreatDoorEa02
import Derived.Test.YtijmnenojbfdnaaGreatDoorEa03
import Derived.Test.YtijmnenojbfdnaaGreatDoorEa04
set_option linter.unusedSimpArgs false
set_option linter.unusedVariables false
namespace Go.Proofs.YtijmnenojbfdnaaGreatDoor
open Go.RowKit
set_option maxHeartbeats 1000000 in
theorem nth_any (x : Var) (i : Nat) (u : Value) (w : World) (h : IsVar (Lt w.heap.size) w u x) (ht : Tame x) (hi : (i : Int) < sizeV x) :
    Calls Tryz.prog 152 #[u, .int .i64 i] w fun e w' => e = .returned (valV (nthV x i)) ∧ Below w.heap.size w w' := by
  obtain ⟨nm, k, lo, hi', its⟩ := x
  obtain ⟨⟨l1, l2⟩, ⟨l3, l4⟩, ld, lk, li⟩ := ht
  obtain ⟨iv, rfl, hnm, f1, f2, f3, hit⟩ := h
  dsimp only at hnm f1 f2 f3 hit l1 l2 l3 l4 ld lk li ⊢
  obtain ⟨A, c, rfl, i1, i2, hit⟩ := hit.open_
  rcases lk with rfl | rfl | rfl
  · have hi1 : (i : Int) < 2 := hi
    go_enter Tryz.func152, Tryz.ntmps152
    go_wp2_with fail
    obtain ⟨y0, y1, y2⟩ := (Blk.new_at (t := 25) (cs := #[.int .i64 1, .int .i64 i, .string ⟨#[]⟩]) (w := w.alloc (.cells #[.string nm, .int .i64 1, .int .i64 lo, .int .i64 hi', .slice A its.length c] 68)) (s := w.heap.size + 1) (by simp)).c3
    refine bodyPost_ret (v := .agg #[.int .i64 1, .int .i64 i, .string ⟨#[]⟩]) (by simp [results, Tryz.results152, go_sem, y0, y1, y2]) rfl ?_
    exact ⟨rfl, bbox (bone w _) _⟩
  · have hi1 : (i : Int) < hi' - lo + 1 := hi
    have hd := ld rfl
    go_enter Tryz.func152, Tryz.ntmps152
    go_wp2_with fail
    obtain ⟨y0, y1, y2⟩ := (Blk.new_at (t := 25) (cs := #[.int .i64 2, .int .i64 (i + lo), .string ⟨#[]⟩]) (w := w.alloc (.cells #[.string nm, .int .i64 2, .int .i64 lo, .int .i64 hi', .slice A its.length c] 68)) (s := w.heap.size + 1) (by simp)).c3
    refine bodyPost_ret (v := .agg #[.int .i64 2, .int .i64 (i + lo), .string ⟨#[]⟩]) (by simp [results, Tryz.results152, go_sem, y0, y1, y2]) rfl ?_
    exact ⟨rfl, bbox (bone w _) _⟩
  · have hi1 : (i : Int) < (its.length : Int) := hi
    obtain ⟨b, o, s, rfl, hD, hx, hf, hcell⟩ := hit.at_ (k := i) (by omega)
    have HG : Hid (its.getD i emptyS = s) := by show its.getD i emptyS = s; rw [List.getD_eq_getElem?_getD, hx]; rfl
    clear hx
    have hi2 : (0 : Int) ≤ i := by omega
    have hDb : b < w.heap.size := hD
    go_enter Tryz.func152, Tryz.ntmps152
    go_wp2_with fail
    obtain ⟨y0, y1, y2⟩ := (Blk.new_at (t := 25) (cs := #[.int .i64 3, .int .i64 0, .string s]) (w := w.alloc (.cells #[.string nm, .int .i64 3, .int .i64 lo, .int .i64 hi', .slice (some ⟨b, o, none⟩) its.length c] 68)) (s := w.heap.size + 1) (by simp)).c3
    refine bodyPost_ret (v := .agg #[.int .i64 3, .int .i64 0, .string s]) (by simp [results, Tryz.results152, go_sem, y0, y1, y2]) rfl ?_
    exact ⟨by rw [← HG.out]; rfl, bbox (bone w _) _⟩
end Go.Proofs.YtijmnenojbfdnaaGreatDoor

namespace Go.Proofs.YtijmnenojbfdnaaGreatDoor
open Go.RowKit Go.Maps Go.WideMaps
section
variable {P : Program} {t k e : TypeId}
theorem plainElem_bool_inv (he : P.underlying e = some .bool) {v : Value} {z : DataW Unit × List MemPlace} (h : plainElem P e v = some z) : ∃ a, v = .bool a ∧ z = (.lit (.bool a), []) := by
  unfold plainElem at h
  rw [he] at h
  cases v <;> simp at h
  subst h
  exact ⟨_, rfl, rfl⟩
def SetP (P : Program) (k e : TypeId) (w : World) (b n : Nat) (l : List (List UInt8)) : Prop :=
  ∃ D : DataW Unit, w.ownsMap P k (plainElem P e) b n D ∧ IsMap D ∧ ∀ s : List UInt8, D.atKey (.string s) (.lit (.bool false)) = .lit (.bool (decide (s ∈ l)))
theorem SetP.made (w : World) : SetP P k e (w.alloc (.map #[] 0)) w.heap.size 0 [] :=
  ⟨.map [], World.ownsMap_made w _ _ _, isMap_empty, fun s => by rw [show decide (s ∈ ([] : List (List UInt8))) = false by simp]; rfl⟩
theorem SetP.now {w w' : World} {b n : Nat} {l : List (List UInt8)} (h : SetP P k e w b n l) (hb : Below w.heap.size w w') : SetP P k e w' b n l := by
  obtain ⟨D, h1, h2, h3⟩ := h
  exact ⟨D, h1.kept (grown_of_below hb none) (by simp), h2, h3⟩
theorem SetP.lt {w : World} {b n : Nat} {l : List (List UInt8)} (h : SetP P k e w b n l) : b < w.heap.size := by
  obtain ⟨D, h1, h2, h3⟩ := h
  exact h1.lt
theorem SetP.look {w : World} {b n : Nat} {l : List (List UInt8)} (h : SetP P k e w b n l) (ht : P.underlying t = some (.map k e)) (hk : P.underlying k = some .string) (he : P.underlying e = some .bool) (hz : (zeroValue e).run P w = .ok (.bool false) w) {s : ByteArray} (hs : s.size ≤ maxLen) :
    (Instr.lookup t (.map (some b)) (.string s) false).run P w = .ok (.bool (decide (s.data.toList ∈ l))) w := by
  obtain ⟨D, h1, h2, h3⟩ := h
  obtain ⟨v, ps, hrun, hv⟩ := h1.lookup (string_keyed hk) ht hz (plainElem_bool he false) (keyOf_string_mk hk hs)
  obtain ⟨c, rfl, hc⟩ := plainElem_bool_inv he hv
  rw [h3] at hc
  simp only [Prod.mk.injEq, DataW.lit.injEq, Lit.bool.injEq] at hc
  rw [hc.1]
  exact hrun
theorem SetP.put {w : World} {b n : Nat} {l : List (List UInt8)} (h : SetP P k e w b n l) (ht : P.underlying t = some (.map k e)) (hk : P.underlying k = some .string) (he : P.underlying e = some .bool) {s : ByteArray} (hs : s.size ≤ maxLen) (hn : n < maxLen) :
    ∃ w', (Instr.mapUpdate t (.map (some b)) (.string s) (.bool true)).run P w = .ok () w' ∧ SetP P k e w' b (n + 1) (l ++ [s.data.toList]) ∧ w.grownBy w' (some b) := by
  obtain ⟨D, h1, h2, h3⟩ := h
  obtain ⟨w', r0, r1, r2⟩ := h1.update (string_keyed hk) ht hn (keyOf_string_mk hk hs) (plainElem_bool he true)
  refine ⟨w', r0, ⟨_, r1, h2.put _ _, fun t => ?_⟩, r2⟩
  by_cases e : t = s.data.toList
  · subst e
    rw [atKey_put_same h2 (by simp [WideAt.IsKeyLit])]
    simp
  · rw [atKey_put_other (by simpa using e), h3]
    simp [e]
end
def SetS := SetP Tryz.prog 9 4
theorem SetS.made (w : World) : SetS (w.alloc (.map #[] 0)) w.heap.size 0 [] := SetP.made w
theorem SetS.now {w w' : World} {b n : Nat} {l : List (List UInt8)} (h : SetS w b n l) (hb : Below w.heap.size w w') : SetS w' b n l := SetP.now h hb
theorem SetS.lt {w : World} {b n : Nat} {l : List (List UInt8)} (h : SetS w b n l) : b < w.heap.size := SetP.lt h
theorem SetS.look {w : World} {b n : Nat} {l : List (List UInt8)} (h : SetS w b n l) {s : ByteArray} (hs : s.size ≤ maxLen) :
    (Instr.lookup 159 (.map (some b)) (.string s) false).run Tryz.prog w = .ok (.bool (decide (s.data.toList ∈ l))) w :=
  SetP.look h Tryz.underlying159 Tryz.underlying9 Tryz.underlying4 (by kernel_rfl) hs
theorem SetS.store {w : World} {ops : Array Oper} {rest : List Oper} {o : Oper} {a : Act} {Q : Exit → Act → World → Prop} {b n : Nat} {l : List (List UInt8)} {s : ByteArray}
    (h : SetS w b n l) (hs : s.size ≤ maxLen) (hn : n < maxLen) (hg : o.guard = none) (m x v : Operand) (hop : o.op = Op.mapUpdate 159 m x v)
    (hm : a.eval m = .map (some b)) (hx : a.eval x = .string s) (hv : a.eval v = .bool true)
    (hK : ∀ w', SetS w' b (n + 1) (l ++ [s.data.toList]) → w.grownBy w' (some b) → wpList Tryz.prog ops Q rest (a.put o.dst undef) w') :
    wpList Tryz.prog ops Q (o :: rest) a w := by
  refine wpList_plain hg fun K' hK' => ?_
  obtain ⟨w', hrun, r1, r2⟩ := SetP.put h Tryz.underlying159 Tryz.underlying9 Tryz.underlying4 hs hn
  unfold Oper.wp
  simp [execOp, hop, hm, hx, hv, hrun, Result.andThen]
  exact hK' _ _ (hK w' r1 r2)
end Go.Proofs.YtijmnenojbfdnaaGreatDoor

namespace Go.Proofs.YtijmnenojbfdnaaGreatDoor
open Go.RowKit
def namesOf (l : List Var) : List Bs := bytesOf (l.map Var.name)
theorem namesOf_take (l : List Var) (k : Nat) : namesOf (l.take k) = (namesOf l).take k := by unfold namesOf bytesOf; rw [List.map_take, List.map_take]
theorem namesOf_get {l : List Var} {k : Nat} {x : Var} (h : l[k]? = some x) : (namesOf l)[k]? = some x.name.data.toList := by unfold namesOf bytesOf; simp [h]
theorem namesOf_snoc {l : List Var} {k : Nat} {x : Var} (h : l[k]? = some x) : namesOf (l.take (k + 1)) = namesOf (l.take k) ++ [x.name.data.toList] := by
  rw [namesOf_take, namesOf_take, List.take_add_one, namesOf_get h]; rfl
def VarsTo (l : List Var) (k : Nat) : Prop := (∀ j x, j < k → l[j]? = some x → varB x = true) ∧ (namesOf (l.take k)).Nodup
theorem VarsTo.zero (l : List Var) : VarsTo l 0 := ⟨fun j _ h => absurd h (by omega), by unfold namesOf bytesOf; simp⟩
theorem VarsTo.next {l : List Var} {k : Nat} {x : Var} (h : VarsTo l k) (hx : l[k]? = some x) (h1 : varB x = true) (h2 : x.name.data.toList ∉ namesOf (l.take k)) : VarsTo l (k + 1) := by
  refine ⟨fun j y hj hy => ?_, ?_⟩
  · by_cases e : j = k
    · subst e; rw [hx] at hy; injection hy with hy; subst hy; exact h1
    · exact h.1 j y (by omega) hy
  · rw [namesOf_snoc hx, List.nodup_append]
    refine ⟨h.2, by simp, fun a ha b hb e => ?_⟩
    simp only [List.mem_singleton] at hb
    subst e hb
    exact h2 ha
theorem varsB_all {l : List Var} (h : VarsTo l l.length) : varsB l = decide (l.length ≤ 8) := by
  unfold varsB
  have h1 : l.all varB = true := by
    rw [List.all_eq_true]
    intro x hx
    obtain ⟨j, hj, rfl⟩ := List.mem_iff_getElem.1 hx
    exact h.1 j _ hj (List.getElem?_eq_getElem hj)
  have h2 := h.2
  rw [List.take_of_length_le (Nat.le_refl _)] at h2
  have h3 : onceB (bytesOf (l.map Var.name)) = true := decide_eq_true h2
  rw [h1, h3]; simp
theorem varsB_bad {l : List Var} {k : Nat} {x : Var} (hx : l[k]? = some x) (h : varB x = false) : varsB l = false := by
  unfold varsB
  have : l.all varB = false := by
    rw [List.all_eq_false]
    exact ⟨x, List.mem_of_getElem? hx, by rw [h]; simp⟩
  rw [this]; simp
theorem varsB_twice {l : List Var} {k : Nat} {x : Var} (hx : l[k]? = some x) (h : x.name.data.toList ∈ namesOf (l.take k)) : varsB l = false := by
  unfold varsB
  have : onceB (bytesOf (l.map Var.name)) = false := by
    unfold onceB
    rw [decide_eq_false_iff_not]
    intro hn
    have h1 : (namesOf (l.take (k + 1))).Nodup := by
      rw [namesOf_take]
      exact hn.sublist (List.take_sublist _ _)
    rw [namesOf_snoc hx, List.nodup_append] at h1
    exact h1.2.2 _ h _ (by simp) rfl
  rw [this]; simp
set_option maxHeartbeats 2000000 in
theorem validVars_any (l : List Var) (u : Value) (w : World) (h : SlX (Lt w.heap.size) w u l) (hl : l.length ≤ 1000000) :
    Calls Tryz.prog 78 #[u] w fun e w' => e = .returned (.bool (varsB l)) ∧ Below w.heap.size w w' := by
  have hmm := @run_makeMap Tryz.prog
  obtain ⟨A, c, rfl, h1, h2, ht⟩ := h.open_
  go_enter Tryz.func78, Tryz.ntmps78
  go_wp2_with fail
  go_loopw [9] (fun i wr => ∃ j : Nat, j ≤ l.length ∧ i = .int .i64 j ∧ Below w.heap.size w wr ∧ SetS wr w.heap.size j (namesOf (l.take j)) ∧ VarsTo l j) (fun i _ => l.length - (intOf i).toNat)
  case atStart => exact ⟨0, Nat.zero_le _, rfl, bone w _, SetS.made w, VarsTo.zero l⟩
  case round =>
    obtain ⟨j, hj, rfl, hb, hset, hto⟩ := hrel
    have HTO := Lib.hid hto
    clear hto
    by_cases hlt : j < l.length
    · obtain ⟨b, o, x, iv, rfl, hD, hx, hvar, hiv, c0, c1, c2, c3, c4⟩ := (ht.now hb).at_ hlt
      have HX := Lib.hid hx
      clear hx
      obtain ⟨A2, k2, rfl, g1, g2, hiv⟩ := hiv.open_
      have hnm : x.name.size ≤ maxLen := by obtain ⟨_, _, hn, _⟩ := hvar; exact hn
      have hb1 := bone wr (.cells #[.string x.name, .int .i64 x.kind, .int .i64 x.low, .int .i64 x.high, .slice A2 x.items.length k2] 68)
      have hB1 := Blk.new wr 68 #[.string x.name, .int .i64 x.kind, .int .i64 x.low, .int .i64 x.high, .slice A2 x.items.length k2]
      have hvar1 := hvar.now hb1
      go_wp2_with fail
      refine (validVar_any x _ _ hvar1).mono ?_
      rintro e w2 ⟨rfl, hb2⟩
      have hB2 := hB1.now hb2
      have hset2 := (hset.now hb1).now hb2
      have hbw2 : Below w.heap.size w w2 := hb.trans ((bthen hb1 hb2).mono hb.size)
      obtain ⟨q0, q1, q2, q3, q4⟩ := hB2.c5
      have hlk := hset2.look hnm
      generalize hq : varB x = q
      have HQ := Lib.hid hq
      clear hq
      cases q
      · have HE := Lib.hid (varsB_bad HX.out HQ.out)
        clear hlk
        go_wp2_with fail
        go_ret
        exact ⟨ret_bool HE.out.symm, hbw2⟩
      · by_cases hin : x.name.data.toList ∈ namesOf (l.take j)
        · have HE := Lib.hid (varsB_twice HX.out hin)
          rw [decide_eq_true hin] at hlk
          clear hin
          go_wp2_with fail
          go_ret
          exact ⟨ret_bool HE.out.symm, hbw2⟩
        · have HI := Lib.hid hin
          rw [decide_eq_false hin] at hlk
          clear hin
          go_wp2_with (at_mapUpdate; refine hset2.store hnm (by unfold maxLen; omega) rfl _ _ _ rfl rfl rfl rfl ?_)
          intro w3 hset3 hg3
          go_wp2_with fail
          go_roundw
          case rel =>
            refine ⟨j + 1, by omega, by go_num, hbw2.trans (below_of_grown hg3 hbw2.size (fun g hg => by injection hg with hg; omega)), ?_, HTO.out.next HX.out HQ.out HI.out⟩
            rw [namesOf_snoc HX.out]
            exact hset3
          case measure => simp [intOf]; omega
    · obtain rfl : j = l.length := by omega
      have HE := Lib.hid (varsB_all HTO.out)
      go_wp2_with fail
      go_ret
      exact ⟨ret_bool (by rw [HE.out, decide_eq_decide]; omega), hb⟩
end Go.Proofs.YtijmnenojbfdnaaGreatDoor

namespace Go.Proofs.YtijmnenojbfdnaaGreatDoor
open Go.RowKit
def inE (x : Var) (v : Val) : Bool × Int := if varB x && validV v then (decide (0 ≤ placeV x v), 0) else (false, 1)
def sizeE (x : Var) : Int × Int := if varB x then (sizeV x, 0) else (0, 1)
def nthE (x : Var) (i : Int) : Val × Int := if varB x then (if i < 0 ∨ sizeV x ≤ i then (noV, 2) else (nthV x i, 0)) else (noV, 1)
def rankE (x : Var) (v : Val) : Int × Int := if varB x && validV v then (if placeV x v < 0 then (0, 11) else (placeV x v, 0)) else (0, 1)
theorem ret_bi {a b : Bool} {c d : Int} (h : (a, c) = (b, d)) : Ending.returned (.tuple #[.bool a, .int .i64 c]) = .returned (.tuple #[.bool b, .int .i64 d]) := by injection h with h1 h2; rw [h1, h2]
theorem ret_ii {a b c d : Int} (h : (a, c) = (b, d)) : Ending.returned (.tuple #[.int .i64 a, .int .i64 c]) = .returned (.tuple #[.int .i64 b, .int .i64 d]) := by injection h with h1 h2; rw [h1, h2]
theorem fit_nth {x : Var} (h : Tame x) {i : Nat} (hi : (i : Int) < sizeV x) (hs : ∀ s ∈ x.items, s.size ≤ maxLen) : FitV (nthV x i) := by
  obtain ⟨nm, k, lo, hi', its⟩ := x
  obtain ⟨⟨l1, l2⟩, ⟨l3, l4⟩, ld, lk, li⟩ := h
  dsimp only at l1 l2 l3 l4 ld lk li hs
  rcases lk with rfl | rfl | rfl
  · have hi1 : (i : Int) < 2 := hi
    exact ⟨by simp [nthV, Fit], by simp [nthV, Fit]; omega, by simp [nthV, emptyS, ByteArray.size]⟩
  · have hi1 : (i : Int) < hi' - lo + 1 := hi
    have := ld rfl
    exact ⟨by simp [nthV, Fit], by simp [nthV, Fit]; omega, by simp [nthV, emptyS, ByteArray.size]⟩
  · have hi1 : (i : Int) < (its.length : Int) := hi
    refine ⟨by simp [nthV, Fit], by simp [nthV, Fit], ?_⟩
    have h1 : i < its.length := by omega
    simp only [nthV, if_true, Int.toNat_natCast, List.getD_eq_getElem?_getD, List.getElem?_eq_getElem h1, Option.getD_some]
    exact hs _ (List.getElem_mem h1)
theorem SlS.sizes {D : Nat → Prop} {w : World} {v : Value} {zs : List ByteArray} (h : SlS D w v zs) : ∀ z ∈ zs, z.size ≤ maxLen := by
  obtain ⟨A, c, rfl, h1, h2, h⟩ := h.open_
  intro z hz
  obtain ⟨k, hk, rfl⟩ := List.mem_iff_getElem.1 hz
  obtain ⟨b, o, y, _, _, hy, hs, _⟩ := h.at_ hk
  rw [List.getElem?_eq_getElem hk] at hy
  injection hy with hy
  rw [hy]; exact hs
theorem IsVar.sizes {D : Nat → Prop} {w : World} {u : Value} {x : Var} (h : IsVar D w u x) : ∀ z ∈ x.items, z.size ≤ maxLen := by
  obtain ⟨iv, _, _, _, _, _, hi⟩ := h
  exact hi.sizes
set_option maxHeartbeats 1000000 in
theorem sizeE_any (x : Var) (u : Value) (w : World) (h : IsVar (Lt w.heap.size) w u x) :
    Calls Tryz.prog 105 #[u] w fun e w' => e = .returned (.tuple #[.int .i64 (sizeE x).1, .int .i64 (sizeE x).2]) ∧ Below w.heap.size w w' := by
  have hv := h
  obtain ⟨iv, rfl, hnm, f1, f2, f3, hit⟩ := h
  obtain ⟨A, c, rfl, i1, i2, hit⟩ := hit.open_
  have hb := bone w (.cells #[.string x.name, .int .i64 x.kind, .int .i64 x.low, .int .i64 x.high, .slice A x.items.length c] 68)
  have hB := Blk.new w 68 #[.string x.name, .int .i64 x.kind, .int .i64 x.low, .int .i64 x.high, .slice A x.items.length c]
  have hv1 := hv.now hb
  go_enter Tryz.func105, Tryz.ntmps105
  go_wp2_with fail
  refine (validVar_any x _ _ hv1).mono ?_
  rintro e w2 ⟨rfl, hb2⟩
  have hB2 := hB.now hb2
  have hv2 := hv1.now hb2
  have hbw2 := bthen hb hb2
  obtain ⟨q0, q1, q2, q3, q4⟩ := hB2.c5
  generalize hq : varB x = q
  have HQ := Lib.hid hq
  clear hq
  cases q
  · have HE : Hid ((0, 1) = ((sizeE x).1, (sizeE x).2)) := by show _ = _; unfold sizeE; rw [HQ.out]; rfl
    go_wp2_with fail
    go_ret2
    exact ⟨ret_ii HE.out, hbw2⟩
  · have HE : Hid ((sizeV x, 0) = ((sizeE x).1, (sizeE x).2)) := by show _ = _; unfold sizeE; rw [HQ.out]; rfl
    go_wp2_with fail
    refine (size_any x _ _ hv2 (tame_of HQ.out)).mono ?_
    rintro e w3 ⟨rfl, hb3⟩
    go_wp2_with fail
    go_ret2
    exact ⟨ret_ii HE.out, bthen hbw2 hb3⟩
theorem Blk.set3 {w : World} {g : Nat} {t : TypeId} {a b c : Value} (h : Blk w g t #[a, b, c]) (x y z : Value) :
    Blk (((w.setCell ⟨g, 0, none⟩ x).setCell ⟨g, 1, none⟩ y).setCell ⟨g, 2, none⟩ z) g t #[x, y, z] := by
  have := ((h.set_ 0 x).set_ 1 y).set_ 2 z
  exact this
theorem bset3 {w w1 : World} {g : Nat} (h : Below w.heap.size w w1) (hg : w.heap.size ≤ g) (x y z : Value) :
    Below w.heap.size w (((w1.setCell ⟨g, 0, none⟩ x).setCell ⟨g, 1, none⟩ y).setCell ⟨g, 2, none⟩ z) :=
  ((h.setCell (p := ⟨g, 0, none⟩) hg x).setCell (p := ⟨g, 1, none⟩) hg y).setCell (p := ⟨g, 2, none⟩) hg z
end Go.Proofs.YtijmnenojbfdnaaGreatDoor
