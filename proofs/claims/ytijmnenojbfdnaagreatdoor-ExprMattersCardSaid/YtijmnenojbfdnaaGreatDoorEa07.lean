/- Texts of this seat, merged. -/
import Derived.Deep.RegionWith
import Derived.Test.YtijmnenojbfdnaaGreatDoorEa01
import Derived.Test.YtijmnenojbfdnaaGreatDoorEa02
import Derived.Test.YtijmnenojbfdnaaGreatDoorEa03
import Derived.Test.YtijmnenojbfdnaaGreatDoorEa04
import Derived.Test.YtijmnenojbfdnaaGreatDoorEa05
import Derived.Test.YtijmnenojbfdnaaGreatDoorEa06
set_option linter.unusedSimpArgs false
set_option linter.unusedVariables false
namespace Go.Proofs.YtijmnenojbfdnaaGreatDoor
open Go.RowKit
def cellsV (v : Val) : List Value := [.int .i64 v.kind, .int .i64 v.n, .string v.s]
theorem cellsV_len (v : Val) : (cellsV v).length = 3 := rfl
theorem cellsV_one (v : Val) : ∀ u ∈ cellsV v, u.oneCell' = true := by intro u hu; simp [cellsV] at hu; rcases hu with rfl | rfl | rfl <;> rfl
def OwnV (w : World) (base : Nat) (v : Value) (vs : List Val) : Prop := OwnW 3 cellsV w base 25 v vs
theorem appVals : AppInfo Tryz.prog 23 25 3 := AppInfo.mk' (z := .agg #[.int .i64 0, .int .i64 0, .string ⟨#[]⟩]) (bytes := 32) Tryz.underlying23 (by kernel_rfl) (by decide) rfl (by decide)
theorem OwnV.now {w w' : World} {base : Nat} {v : Value} {vs : List Val} (h : OwnV w base v vs) (hb : Below w.heap.size w w') : OwnV w' base v vs := OwnW.now h hb
theorem OwnV.sl {w : World} {base : Nat} {v : Value} {vs : List Val} (h : OwnV w base v vs) (hf : ∀ x ∈ vs, FitV x) : SlV (Lt w.heap.size) w v vs := OwnW.sl h cellsV_len (fun _ _ x hx => ⟨rfl, hf x hx⟩)
theorem SlV.fits {D : Nat → Prop} {w : World} {v : Value} {vs : List Val} (h : SlV D w v vs) : ∀ x ∈ vs, FitV x := by
  obtain ⟨A, c, rfl, h1, h2, h⟩ := h.open_
  intro z hz
  obtain ⟨k, hk, rfl⟩ := List.mem_iff_getElem.1 hz
  obtain ⟨b, o, y, _, _, hy, hs, _⟩ := h.at_ hk
  rw [List.getElem?_eq_getElem hk] at hy
  injection hy with hy
  rw [hy]; exact hs
def AsksV (k : FuncId) (w : World) (xs : List Val) (p : Val → Bool) : Prop :=
  ∀ (x : Val) (w1 : World), x ∈ xs → FitV x → Below w.heap.size w w1 → Calls Tryz.prog k #[valV x] w1 fun e w2 => e = .returned (.bool (p x)) ∧ Below w1.heap.size w1 w2
set_option maxHeartbeats 400000 in
theorem indexFuncV (k : FuncId) (eg : ∀ args w, (callFunc k args).run Tryz.prog w = .ok (.enter k args) w) (tv : Value) (ts : List Val) (p : Val → Bool) (w : World) (ht : SlV (Lt w.heap.size) w tv ts) (hf : AsksV k w ts p) :
    Calls Tryz.prog 43 #[tv, .func (.func k) #[] #[]] w fun e w' => ∃ z : Int, e = .returned (.int .i64 z) ∧ decide (0 ≤ z) = ts.any p ∧ Below w.heap.size w w' := by
  obtain ⟨A, c, rfl, h1, h2, ht⟩ := ht.open_
  have HF := Lib.hid hf
  clear hf
  go_enter Tryz.func43, Tryz.ntmps43
  go_wp2_with fail
  go_loopw [8] (fun i wr => ∃ j : Nat, j ≤ ts.length ∧ i = .int .i64 j ∧ (∀ q t, q < j → ts[q]? = some t → p t = false) ∧ Below w.heap.size w wr) (fun i _ => ts.length - (intOf i).toNat)
  case atStart => exact ⟨0, Nat.zero_le _, rfl, fun q _ h => absurd h (by omega), Below.refl _ _⟩
  case round =>
    obtain ⟨j, hj, rfl, hp, hb⟩ := hrel
    have HP := Lib.hid hp
    clear hp
    by_cases hlt : j < ts.length
    · obtain ⟨b, o, t, rfl, hD, hx, hf, c0, c1, c2⟩ := (ht.now hb).at_ hlt
      have hcall := HF.out t wr (List.mem_of_getElem? hx) hf hb
      have HX := Lib.hid hx
      clear hx
      generalize hq : p t = q at *
      have HQ := Lib.hid hq
      unfold valV at hcall
      have HC := Lib.hid hcall
      clear hcall hq
      cases q
      · go_wp2_with (go_at_fn k; refine HC.out.mono ?_; rintro e w' ⟨rfl, hb'⟩)
        go_roundw
        case rel =>
          refine ⟨j + 1, by omega, by go_num, fun q y hq hy => ?_, bthen hb hb'⟩
          by_cases e : q = j
          · subst e; rw [HX.out] at hy; injection hy with hy; subst hy; exact HQ.out
          · exact HP.out q y (by omega) hy
        case measure => simp [intOf]; omega
      · go_wp2_with (go_at_fn k; refine HC.out.mono ?_; rintro e w' ⟨rfl, hb'⟩)
        go_ret
        refine ⟨_, rfl, ?_, bthen hb hb'⟩
        rw [List.any_eq_true.2 ⟨t, List.mem_of_getElem? HX.out, HQ.out⟩]
        simp
    · go_wp2_with fail
      go_ret
      refine ⟨_, rfl, ?_, hb⟩
      rw [any_false_of _ ts (fun q y hq hy => HP.out q y (by omega) hy)]
      simp
theorem containsFuncV (k : FuncId) (eg : ∀ args w, (callFunc k args).run Tryz.prog w = .ok (.enter k args) w) (tv : Value) (ts : List Val) (p : Val → Bool) (w : World) (ht : SlV (Lt w.heap.size) w tv ts) (hf : AsksV k w ts p) :
    Calls Tryz.prog 11 #[tv, .func (.func k) #[] #[]] w fun e w' => e = .returned (.bool (ts.any p)) ∧ Below w.heap.size w w' := by
  have HC := Lib.hid (indexFuncV k eg tv ts p w ht hf)
  clear hf ht
  go_enter Tryz.func11, Tryz.ntmps11
  go_wp2_with (go_at_call 43; refine HC.out.mono ?_; rintro e w' ⟨z, rfl, hz, hb'⟩)
  go_ret
  exact ⟨rfl, hb'⟩
set_option maxHeartbeats 400000 in
theorem valid1_any (v : Val) (w : World) (hf : FitV v) : Calls Tryz.prog 109 #[valV v] w fun e w' => e = .returned (.bool (!validV v)) ∧ Below w.heap.size w w' := by
  have hb := bone w (.cells #[.int .i64 v.kind, .int .i64 v.n, .string v.s] 25)
  unfold valV
  go_enter Tryz.func109, Tryz.ntmps109
  go_wp2_with fail
  refine (validV_any v _ hf).mono ?_
  rintro e w2 ⟨rfl, hb2⟩
  generalize hq : validV v = q
  have HQ := Lib.hid hq
  clear hq
  go_wp2_with fail
  go_ret
  exact ⟨ret_bool (by rw [HQ.out]), bthen hb hb2⟩
theorem any_not_allV (l : List Val) : (l.any fun x => !validV x) = !l.all validV := by
  induction l with
  | nil => rfl
  | cons a m ih => simp [List.any_cons, List.all_cons, ih]
def okB (l : List Var) (vs : List Val) : Bool := varsB l && vs.all validV
set_option maxHeartbeats 400000 in
theorem validVs_any (l : List Var) (vs : List Val) (u v : Value) (w : World) (h : SlX (Lt w.heap.size) w u l) (hv : SlV (Lt w.heap.size) w v vs) (hl : l.length ≤ 1000000) :
    Calls Tryz.prog 69 #[u, v] w fun e w' => e = .returned (.bool (okB l vs)) ∧ Below w.heap.size w w' := by
  have eg : ∀ args w, (callFunc 109 args).run Tryz.prog w = .ok (.enter 109 args) w := enters_of Tryz.func109 (by kernel_rfl) rfl
  go_enter Tryz.func69, Tryz.ntmps69
  go_wp2_with fail
  refine (validVars_any l u _ h hl).mono ?_
  rintro e w2 ⟨rfl, hb2⟩
  have HO : Hid (okB l vs = (varsB l && vs.all validV)) := rfl
  generalize varsB l = q at *
  cases q
  · go_wp2_with fail
    go_ret
    exact ⟨ret_bool (by rw [HO.out]; rfl), hb2⟩
  · go_wp2_with fail
    refine (containsFuncV _ eg v vs (fun x => !validV x) _ (hv.now hb2) (fun x w1 _ hf _ => valid1_any x w1 hf)).mono ?_
    rintro e w3 ⟨rfl, hb3⟩
    rw [any_not_allV]
    generalize vs.all validV = p at *
    go_wp2_with fail
    go_ret
    exact ⟨ret_bool (by rw [HO.out]; simp), bthen hb2 hb3⟩
def firstV (l : List Var) : List Val := l.map fun x => nthV x 0
theorem firstV_snoc {l : List Var} {k : Nat} {x : Var} (h : l[k]? = some x) : firstV (l.take (k + 1)) = firstV (l.take k) ++ [nthV x 0] := by
  unfold firstV
  rw [List.take_add_one, h, List.map_append]; rfl
theorem vars_each {l : List Var} (h : varsB l = true) {k : Nat} {x : Var} (hx : l[k]? = some x) : varB x = true := by
  unfold varsB at h
  simp only [Bool.and_eq_true] at h
  exact List.all_eq_true.1 h.1.2 x (List.mem_of_getElem? hx)
theorem vars_len {l : List Var} (h : varsB l = true) : l.length ≤ 8 := by
  unfold varsB at h
  simp only [Bool.and_eq_true, decide_eq_true_eq] at h
  exact h.1.1
theorem size_pos {x : Var} (h : Tame x) : 1 ≤ sizeV x := by
  obtain ⟨nm, k, lo, hi, its⟩ := x
  obtain ⟨_, _, ld, lk, li⟩ := h
  dsimp only at ld lk li
  rcases lk with rfl | rfl | rfl
  · show (1 : Int) ≤ 2; omega
  · show 1 ≤ hi - lo + 1; have := ld rfl; omega
  · show (1 : Int) ≤ its.length; have := li rfl; omega
theorem vars_items {D : Nat → Prop} {w : World} {u : Value} {l : List Var} (h : SlX D w u l) : ∀ x ∈ l, ∀ z ∈ x.items, z.size ≤ maxLen := by
  obtain ⟨A, c, rfl, h1, h2, h⟩ := h.open_
  intro x hx
  obtain ⟨k, hk, rfl⟩ := List.mem_iff_getElem.1 hx
  obtain ⟨b, o, y, iv, _, _, hy, hv, _⟩ := h.at_ hk
  rw [List.getElem?_eq_getElem hk] at hy
  injection hy with hy
  rw [hy]; exact hv.sizes
theorem firstV_fits {D : Nat → Prop} {w : World} {u : Value} {l : List Var} (h : SlX D w u l) (hv : varsB l = true) : ∀ v ∈ firstV l, FitV v := by
  intro v hm
  obtain ⟨x, hx, rfl⟩ := List.mem_map.1 hm
  obtain ⟨k, hk, rfl⟩ := List.mem_iff_getElem.1 hx
  have ht := tame_of (vars_each hv (List.getElem?_eq_getElem hk))
  exact fit_nth ht (i := 0) (by have := size_pos ht; omega) (vars_items h _ hx)
def firstE (l : List Var) : List Val × Int := if varsB l then (firstV l, 0) else ([], 1)
def RetVE (vs : List Val) (z : Int) (w : World) (e : Ending) (w' : World) : Prop := ∃ v, e = .returned (.tuple #[v, .int .i64 z]) ∧ SlV (Lt w'.heap.size) w' v vs ∧ Below w.heap.size w w'
set_option maxHeartbeats 1000000 in
theorem firstE_any (l : List Var) (u : Value) (w : World) (h : SlX (Lt w.heap.size) w u l) (hl : l.length ≤ 1000000) :
    Calls Tryz.prog 106 #[u] w (RetVE (firstE l).1 (firstE l).2 w) := by
  have hfv := firstV_fits h
  obtain ⟨A, c, rfl, h1, h2, ht⟩ := h.open_
  have HF := Lib.hid hfv
  clear h hfv
  go_enter Tryz.func106, Tryz.ntmps106
  go_wp2_with fail
  refine (validVars_any l _ _ ht hl).mono ?_
  rintro e w2 ⟨rfl, hb2⟩
  have hx2 := ht.now hb2
  generalize hq : varsB l = q
  have HQ := Lib.hid hq
  clear hq
  cases q
  · have HE : Hid (firstE l = ([], 1)) := by show _ = _; unfold firstE; rw [HQ.out]; rfl
    go_wp2_with fail
    go_ret2
    rw [HE.out]
    exact ⟨_, rfl, Sl.none_, hb2⟩
  have HE : Hid (firstE l = (firstV l, 0)) := by show _ = _; unfold firstE; rw [HQ.out]; rfl
  have h8 := vars_len HQ.out
  go_wp2_with fail
  go_loopw [4, 12] (fun ov i wr => ∃ j : Nat, j ≤ l.length ∧ i = .int .i64 j ∧ OwnV wr w2.heap.size ov (firstV (l.take j)) ∧ Below w2.heap.size w2 wr) (fun _ i _ => l.length - (intOf i).toNat)
  case atStart => exact ⟨0, Nat.zero_le _, rfl, OwnW.nil, Below.refl _ _⟩
  case round =>
    obtain ⟨j, hj, rfl, hown, hb⟩ := hrel
    by_cases hlt : j < l.length
    · obtain ⟨b, o, x, iv, rfl, hD, hx, hvar, hiv, c0, c1, c2, c3, c4⟩ := (hx2.now hb).at_ hlt
      have HX := Lib.hid hx
      have htm := tame_of (vars_each HQ.out hx)
      have hs1 := size_pos htm
      clear hx
      obtain ⟨A2, k2, rfl, g1, g2, hiv⟩ := hiv.open_
      have hb1 := bone wr (.cells #[.string x.name, .int .i64 x.kind, .int .i64 x.low, .int .i64 x.high, .slice A2 x.items.length k2] 68)
      have hvar1 := hvar.now hb1
      have hown1 := hown.now hb1
      go_wp2_with fail
      refine (nth_any x 0 _ _ hvar1 htm (by omega)).mono ?_
      rintro e w3 ⟨rfl, hb3⟩
      have hown3 := hown1.now hb3
      have hb13 := bthen hb1 hb3
      have hlen : (firstV (l.take j)).length < 10000000 := by unfold firstV; rw [List.length_map, List.length_take]; omega
      have hsz3 : w2.heap.size ≤ w3.heap.size := Nat.le_trans hb.size hb13.size
      have HS := Lib.hid (firstV_snoc HX.out)
      unfold valV
      have hz : ((0 : Nat) : Int) = 0 := rfl
      rw [hz]
      go_wp2_with (at_builtin; refine wpList_pushW (fc := cellsV) appVals rfl (.tmp 16) (.tmp 19) rfl w3 (nthV x 0) (firstV (l.take j)) rfl (cellsV_one _) _ rfl hown3 rfl hlen hsz3 ?_; intro v' w' hown' hgr hat)
      have hbg : Below w2.heap.size w3 w' := below_of_grown hgr hsz3 (fun g hg => (World.ownsRow.lt hown3 g hg).1)
      go_roundw
      case rel =>
        refine ⟨j + 1, by omega, by go_num, ?_, (hb.trans (hb13.mono hb.size)).trans hbg⟩
        rw [HS.out]; exact hown'
      case measure => simp [intOf]; omega
    · obtain rfl : j = l.length := by omega
      rw [List.take_of_length_le (Nat.le_refl _)] at hown
      go_wp2_with fail
      go_ret2
      rw [HE.out]
      exact ⟨_, rfl, hown.sl (HF.out HQ.out), bthen hb2 hb⟩
def RetV (vs : List Val) (w : World) (e : Ending) (w' : World) : Prop := ∃ v, e = .returned v ∧ SlV (Lt w'.heap.size) w' v vs ∧ Below w.heap.size w w'
end Go.Proofs.YtijmnenojbfdnaaGreatDoor

namespace Go.Proofs.YtijmnenojbfdnaaGreatDoor
open Go.RowKit
def assignedB (l : List Var) (vs : List Val) : Bool := decide (vs.length = l.length) && (l.zip vs).all fun p => decide (0 ≤ placeV p.1 p.2)
def PlacedTo (l : List Var) (vs : List Val) (k : Nat) : Prop := ∀ (j : Nat) x v, j < k → l[j]? = some x → vs[j]? = some v → 0 ≤ placeV x v
theorem assigned_len {l : List Var} {vs : List Val} (h : vs.length ≠ l.length) : assignedB l vs = false := by
  unfold assignedB
  rw [decide_eq_false h]; rfl
theorem assigned_yes {l : List Var} {vs : List Val} (h : vs.length = l.length) (hp : PlacedTo l vs l.length) : assignedB l vs = true := by
  unfold assignedB
  rw [decide_eq_true h, Bool.true_and, List.all_eq_true]
  rintro ⟨x, v⟩ hm
  obtain ⟨j, hj, e⟩ := List.mem_iff_getElem.1 hm
  rw [List.getElem_zip] at e
  injection e with e1 e2
  rw [List.length_zip] at hj
  exact decide_eq_true (hp j x v (by omega) (by rw [← e1]; exact List.getElem?_eq_getElem (by omega)) (by rw [← e2]; exact List.getElem?_eq_getElem (by omega)))
theorem assigned_no {l : List Var} {vs : List Val} {j : Nat} {x : Var} {v : Val} (hx : l[j]? = some x) (hv : vs[j]? = some v) (h : placeV x v < 0) : assignedB l vs = false := by
  unfold assignedB
  rw [Bool.and_eq_false_iff]
  right
  rw [List.all_eq_false]
  refine ⟨(x, v), List.mem_of_getElem? (i := j) ?_, by simp; omega⟩
  rw [List.getElem?_zip_eq_some]
  exact ⟨hx, hv⟩
theorem assigned_at {l : List Var} {vs : List Val} (h : assignedB l vs = true) : vs.length = l.length ∧ PlacedTo l vs l.length := by
  unfold assignedB at h
  simp only [Bool.and_eq_true, decide_eq_true_eq] at h
  refine ⟨h.1, fun j x v _ hx hv => ?_⟩
  have := List.all_eq_true.1 h.2 (x, v) (List.mem_of_getElem? (i := j) (by rw [List.getElem?_zip_eq_some]; exact ⟨hx, hv⟩))
  simpa using this
theorem atS_le (l : List ByteArray) (s : ByteArray) : -1 ≤ atS l s ∧ atS l s < l.length := by
  unfold atS
  cases h : l.findIdx? (fun y => y.toList == s.toList) with
  | none => simp; omega
  | some i =>
    rw [List.findIdx?_eq_some_iff_getElem] at h
    obtain ⟨h1, _⟩ := h
    simp; omega
theorem place_lt {x : Var} {v : Val} (ht : Tame x) (hv : validV v = true) : -1 ≤ placeV x v ∧ placeV x v < sizeV x := by
  obtain ⟨nm, k, lo, hi, its⟩ := x
  obtain ⟨vk, vn, vs⟩ := v
  obtain ⟨_, _, ld, lk, li⟩ := ht
  dsimp only at ld lk li
  unfold placeV sizeV
  dsimp only
  by_cases e : vk = k
  · subst e
    rw [if_neg (by simp)]
    rcases lk with rfl | rfl | rfl
    · have := (valid1 hv rfl).1
      dsimp only at this
      simp; omega
    · simp
      have := ld rfl
      split <;> omega
    · simp
      exact atS_le its vs
  · rw [if_pos e]
    have : 0 < (if k = 1 then 2 else if k = 2 then hi - lo + 1 else (its.length : Int)) := by
      rcases lk with rfl | rfl | rfl
      · simp
      · have := ld rfl; simp; omega
      · have := li rfl; simp; omega
    omega
theorem sizeV_le {x : Var} (h : Tame x) : sizeV x ≤ 1000 := by
  obtain ⟨nm, k, lo, hi, its⟩ := x
  obtain ⟨_, _, ld, lk, li⟩ := h
  dsimp only at ld lk li
  rcases lk with rfl | rfl | rfl
  · show (2 : Int) ≤ 1000; omega
  · show hi - lo + 1 ≤ 1000; have := ld rfl; omega
  · show (its.length : Int) ≤ 1000; have := li rfl; omega
def nextFrom (l : List Var) (vs : List Val) : Nat → List Val → List Val × Bool
  | 0, _ => ([], false)
  | i + 1, out => match l[i]?, vs[i]? with
    | some x, some v => if placeV x v + 1 < sizeV x then (out.set i (nthV x (placeV x v + 1)), true) else nextFrom l vs i (out.set i (nthV x 0))
    | _, _ => ([], false)
def nextV (l : List Var) (vs : List Val) : List Val × Bool := nextFrom l vs l.length vs
theorem nextFrom_yes {l : List Var} {vs out : List Val} {i : Nat} {x : Var} {v : Val} (hx : l[i]? = some x) (hv : vs[i]? = some v) (h : placeV x v + 1 < sizeV x) : nextFrom l vs (i + 1) out = (out.set i (nthV x (placeV x v + 1)), true) := by
  unfold nextFrom; rw [hx, hv]; simp [h]
theorem nextFrom_no {l : List Var} {vs out : List Val} {i : Nat} {x : Var} {v : Val} (hx : l[i]? = some x) (hv : vs[i]? = some v) (h : ¬ placeV x v + 1 < sizeV x) : nextFrom l vs (i + 1) out = nextFrom l vs i (out.set i (nthV x 0)) := by
  rw [nextFrom, hx, hv]; simp [h]
def nextE (l : List Var) (vs : List Val) : List Val × Bool × Int :=
  if okB l vs then (if vs.length ≠ l.length then ([], false, 29) else if assignedB l vs then ((nextV l vs).1, (nextV l vs).2, 0) else ([], false, 11)) else ([], false, 1)
def inAllE (l : List Var) (vs : List Val) : Bool × Int := if okB l vs then (assignedB l vs, 0) else (false, 1)
theorem ok_vars {l : List Var} {vs : List Val} (h : okB l vs = true) : varsB l = true ∧ ∀ v ∈ vs, validV v = true := by
  unfold okB at h
  simp only [Bool.and_eq_true] at h
  exact ⟨h.1, List.all_eq_true.1 h.2⟩
theorem carry5 {w W : World} (hb : Below w.heap.size w W) {b o : Nat} {u0 u1 u2 u3 u4 : Value} (hD : b < w.heap.size) (c0 : w.cell? ⟨b, o, none⟩ = some u0) (c1 : w.cell? ⟨b, o + 1, none⟩ = some u1) (c2 : w.cell? ⟨b, o + 2, none⟩ = some u2) (c3 : w.cell? ⟨b, o + 3, none⟩ = some u3) (c4 : w.cell? ⟨b, o + 4, none⟩ = some u4) :
    W.cell? ⟨b, o, none⟩ = some u0 ∧ W.cell? ⟨b, o + 1, none⟩ = some u1 ∧ W.cell? ⟨b, o + 2, none⟩ = some u2 ∧ W.cell? ⟨b, o + 3, none⟩ = some u3 ∧ W.cell? ⟨b, o + 4, none⟩ = some u4 :=
  ⟨(hb.cell (p := ⟨b, o, none⟩) hD).trans c0, (hb.cell (p := ⟨b, o + 1, none⟩) hD).trans c1, (hb.cell (p := ⟨b, o + 2, none⟩) hD).trans c2, (hb.cell (p := ⟨b, o + 3, none⟩) hD).trans c3, (hb.cell (p := ⟨b, o + 4, none⟩) hD).trans c4⟩
theorem flat3_set (xs : List Val) : ∀ (k : Nat) (y : Val), k < xs.length → flat cellsV (xs.set k y) = (((flat cellsV xs).set (k * 3) (.int .i64 y.kind)).set (k * 3 + 1) (.int .i64 y.n)).set (k * 3 + 2) (.string y.s) := by
  induction xs with
  | nil => intro k y h; simp at h
  | cons x xs ih =>
    intro k y h
    cases k with
    | zero => rfl
    | succ k =>
      have e : flat cellsV (x :: xs) = .int .i64 x.kind :: .int .i64 x.n :: .string x.s :: flat cellsV xs := rfl
      have e2 : flat cellsV ((x :: xs).set (k + 1) y) = .int .i64 x.kind :: .int .i64 x.n :: .string x.s :: flat cellsV (xs.set k y) := rfl
      rw [e, e2, ih k y (by simpa using h)]
      have a0 : (k + 1) * 3 = k * 3 + 1 + 1 + 1 := by omega
      have a1 : (k + 1) * 3 + 1 = k * 3 + 1 + 1 + 1 + 1 := by omega
      have a2 : (k + 1) * 3 + 2 = k * 3 + 2 + 1 + 1 + 1 := by omega
      rw [a1, a2, a0]
      simp only [List.set_cons_succ]
theorem OwnV.set_ {w : World} {base g cap : Nat} {vs : List Val} (h : OwnV w base (.slice (some ⟨g, 0, none⟩) vs.length cap) vs) {k : Nat} (hk : k < vs.length) (y : Val) :
    OwnV (((w.setCell ⟨g, k * 3, none⟩ (.int .i64 y.kind)).setCell ⟨g, k * 3 + 1, none⟩ (.int .i64 y.n)).setCell ⟨g, k * 3 + 2, none⟩ (.string y.s)) base (.slice (some ⟨g, 0, none⟩) vs.length cap) (vs.set k y) := by
  have := (((World.ownsRow.stored h (k * 3) (.int .i64 y.kind)).1.stored (k * 3 + 1) (.int .i64 y.n)).1.stored (k * 3 + 2) (.string y.s)).1
  unfold OwnV OwnW
  rw [List.length_set, flat3_set vs k y hk]
  exact this
theorem OwnV.cells {w : World} {base g cap : Nat} {vs : List Val} (h : OwnV w base (.slice (some ⟨g, 0, none⟩) vs.length cap) vs) {k : Nat} (hk : k < vs.length) :
    ∃ x : Val, w.cell? ⟨g, k * 3, none⟩ = some (.int .i64 x.kind) ∧ w.cell? ⟨g, k * 3 + 1, none⟩ = some (.int .i64 x.n) ∧ w.cell? ⟨g, k * 3 + 2, none⟩ = some (.string x.s) ∧ w.frozen? ⟨g, k * 3, none⟩ = false ∧ w.frozen? ⟨g, k * 3 + 1, none⟩ = false ∧ w.frozen? ⟨g, k * 3 + 2, none⟩ = false := by
  have hx := List.getElem?_eq_getElem hk
  refine ⟨vs[k], ?_, ?_, ?_, World.ownsRow.frozenAt h _, World.ownsRow.frozenAt h _, World.ownsRow.frozenAt h _⟩
  · rw [World.ownsRow.cellAt h (k * 3) (by omega)]; exact flat_get cellsV_len vs k 0 _ hx (by omega)
  · rw [World.ownsRow.cellAt h (k * 3 + 1) (by omega)]; exact flat_get cellsV_len vs k 1 _ hx (by omega)
  · rw [World.ownsRow.cellAt h (k * 3 + 2) (by omega)]; exact flat_get cellsV_len vs k 2 _ hx (by omega)
theorem bput3 {B : Nat} {w w1 : World} {g : Nat} (h : Below B w w1) (hg : B ≤ g) (i j k : Nat) (x y z : Value) :
    Below B w (((w1.setCell ⟨g, i, none⟩ x).setCell ⟨g, j, none⟩ y).setCell ⟨g, k, none⟩ z) :=
  ((h.setCell (p := ⟨g, i, none⟩) hg x).setCell (p := ⟨g, j, none⟩) hg y).setCell (p := ⟨g, k, none⟩) hg z
set_option maxHeartbeats 1000000 in
theorem assigned_any (l : List Var) (vs : List Val) (u v : Value) (w : World) (h : SlX (Lt w.heap.size) w u l) (hv : SlV (Lt w.heap.size) w v vs) (hl : varsB l = true) :
    Calls Tryz.prog 70 #[u, v] w fun e w' => e = .returned (.bool (assignedB l vs)) ∧ Below w.heap.size w w' := by
  obtain ⟨A, c, rfl, h1, h2, ht⟩ := h.open_
  obtain ⟨Av, cv, rfl, h1v, h2v, htv⟩ := hv.open_
  clear h hv
  have HQ := Lib.hid hl
  have h8 := vars_len hl
  clear hl
  go_enter Tryz.func70, Tryz.ntmps70
  by_cases hlen : vs.length = l.length
  rotate_left
  · have HE := Lib.hid (assigned_len hlen)
    have h3 : ((vs.length : Int) != (l.length : Int)) = true := by simp; omega
    clear hlen
    go_wp2_with fail
    go_ret
    exact ⟨ret_bool HE.out.symm, Below.refl _ _⟩
  have h3 : ((vs.length : Int) != (l.length : Int)) = false := by simp; omega
  go_wp2_with fail
  go_loopw [14] (fun i wr => ∃ j : Nat, j ≤ l.length ∧ i = .int .i64 j ∧ PlacedTo l vs j ∧ Below w.heap.size w wr) (fun i _ => l.length - (intOf i).toNat)
  case atStart => exact ⟨0, Nat.zero_le _, rfl, fun j _ _ h => absurd h (by omega), Below.refl _ _⟩
  case round =>
    obtain ⟨j, hj, rfl, hp, hb⟩ := hrel
    have HP := Lib.hid hp
    clear hp
    by_cases hlt : j < l.length
    · obtain ⟨b, o, x, iv, rfl, hD, hx, hvar, hiv, c0, c1, c2, c3, c4⟩ := (ht.now hb).at_ hlt
      obtain ⟨A2, k2, rfl, g1, g2, hiv⟩ := hiv.open_
      have hb1 := bone wr (.cells #[.string x.name, .int .i64 x.kind, .int .i64 x.low, .int .i64 x.high, .slice A2 x.items.length k2] 68)
      have hB1 := Blk.new wr 68 #[.string x.name, .int .i64 x.kind, .int .i64 x.low, .int .i64 x.high, .slice A2 x.items.length k2]
      have hvar1 := hvar.now hb1
      have hbw1 := bthen hb hb1
      obtain ⟨bv, ov, y, rfl, hDv, hy, hfy, d0, d1, d2⟩ := (htv.now hbw1).at_ (k := j) (by omega)
      have HX := Lib.hid hx
      have HY := Lib.hid hy
      have htm := tame_of (vars_each HQ.out hx)
      clear hx hy
      have HC := Lib.hid (place_any x y _ (wr.alloc (.cells #[.string x.name, .int .i64 x.kind, .int .i64 x.low, .int .i64 x.high, .slice A2 x.items.length k2] 68)).drew (hvar1.now (Below.refl _ _).drew) htm hfy)
      unfold valV at HC
      have i1 : (0 : Int) ≤ j := by omega
      have i2 : (j : Int) < (vs.length : Int) := by omega
      generalize hz : placeV x y = z at *
      have HZ := Lib.hid hz
      clear hz
      go_wp2_with fail
      go_region_with (go_at_call 111; refine HC.out.mono ?_; rintro e w3 ⟨rfl, hb3⟩)
      all_goals
        have hbw3 := bthen hbw1.drew hb3
        by_cases hz : z < 0
        · have HE := Lib.hid (assigned_no HX.out HY.out (by rw [HZ.out]; exact hz))
          go_wp2_with fail
          go_ret
          exact ⟨ret_bool HE.out.symm, hbw3⟩
        · go_wp2_with fail
          refine ⟨⟨_, _, _, _, ⟨j + 1, by omega, by simp, fun q a b hq ha hb' => ?_⟩, rfl, rfl, rfl, rfl⟩, by simp [intOf]; omega⟩
          by_cases e : q = j
          · subst e
            rw [HX.out] at ha; rw [HY.out] at hb'
            injection ha with ha; injection hb' with hb'
            subst ha hb'
            rw [HZ.out]; omega
          · exact HP.out q a b (by omega) ha hb'
    · obtain rfl : j = l.length := by omega
      have HE := Lib.hid (assigned_yes hlen HP.out)
      go_wp2_with fail
      go_ret
      exact ⟨ret_bool HE.out.symm, hb⟩
end Go.Proofs.YtijmnenojbfdnaaGreatDoor
