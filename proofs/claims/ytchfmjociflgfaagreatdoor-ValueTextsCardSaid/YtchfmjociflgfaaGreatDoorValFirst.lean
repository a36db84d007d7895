/- Lists of values: searches, value.valid, value.First, the reference's First and ValidAll. -/
import Derived.Test.YtchfmjociflgfaaGreatDoorValText
import Derived.Test.YtchfmjociflgfaaGreatDoorOwnW
namespace Go.Proofs.YtchfmjociflgfaaGreatDoor
open Go.RowKit

def cellsV (v : Val) : List Value := [.int .i64 v.kind, .int .i64 v.n, .string v.s]
theorem cellsV_len (v : Val) : (cellsV v).length = 3 := rfl
theorem cellsV_one (v : Val) : ∀ u ∈ cellsV v, u.oneCell' = true := by intro u hu; simp [cellsV] at hu; rcases hu with rfl | rfl | rfl <;> rfl
def OwnV (w : World) (base : Nat) (v : Value) (vs : List Val) : Prop := OwnW 3 cellsV w base 23 v vs
theorem appVals : AppInfo Tryz.prog 43 23 3 := AppInfo.mk' (z := .agg #[.int .i64 0, .int .i64 0, .string ⟨#[]⟩]) (bytes := 32) Tryz.underlying43 (by kernel_rfl) (by decide) rfl (by decide)
theorem OwnV.now {w w' : World} {base : Nat} {v : Value} {vs : List Val} (h : OwnV w base v vs) (hb : Below w.heap.size w w') : OwnV w' base v vs := OwnW.now h hb
theorem OwnV.sl {w : World} {base : Nat} {v : Value} {vs : List Val} (h : OwnV w base v vs) (hf : ∀ x ∈ vs, FitV x) : SlV (Lt w.heap.size) w v vs := OwnW.sl h cellsV_len (fun _ _ x hx => ⟨rfl, hf x hx⟩)
theorem SlV.fits {D : Nat → Prop} {w : World} {v : Value} {vs : List Val} (h : SlV D w v vs) : ∀ x ∈ vs, FitV x := by
  obtain ⟨A, c, rfl, h1, h2, h⟩ := h.open_
  intro z hz
  obtain ⟨k, hk, rfl⟩ := List.mem_iff_getElem.1 hz
  obtain ⟨b, o, y, _, _, hy, hs, _⟩ := h.at_ hk
  rw [List.getElem?_eq_getElem hk] at hy
  injection hy with hy
  rw [hy]; exact hs

def AsksV (k : FuncId) (w : World) (xs : List Val) (p : Val → Bool) : Prop :=
  ∀ (x : Val) (w1 : World), x ∈ xs → FitV x → Below w.heap.size w w1 → Calls Tryz.prog k #[valV x] w1 fun e w2 => e = .returned (.bool (p x)) ∧ Below w1.heap.size w1 w2

set_option maxHeartbeats 400000 in
theorem indexFuncV (k : FuncId) (eg : ∀ args w, (callFunc k args).run Tryz.prog w = .ok (.enter k args) w) (tv : Value) (ts : List Val) (p : Val → Bool) (w : World) (ht : SlV (Lt w.heap.size) w tv ts) (hf : AsksV k w ts p) :
    Calls Tryz.prog 73 #[tv, .func (.func k) #[] #[]] w fun e w' => ∃ z : Int, e = .returned (.int .i64 z) ∧ decide (0 ≤ z) = ts.any p ∧ Below w.heap.size w w' := by
  obtain ⟨A, c, rfl, h1, h2, ht⟩ := ht.open_
  have HF := Lib.hid hf
  clear hf
  go_enter Tryz.func73, Tryz.ntmps73
  go_wp2_with fail
  go_loopw [8] (fun i wr => ∃ j : Nat, j ≤ ts.length ∧ i = .int .i64 j ∧ (∀ q t, q < j → ts[q]? = some t → p t = false) ∧ Below w.heap.size w wr) (fun i _ => ts.length - (intOf i).toNat)
  case atStart => exact ⟨0, Nat.zero_le _, rfl, fun q _ h => absurd h (by omega), Below.refl _ _⟩
  case round =>
    obtain ⟨j, hj, rfl, hp, hb⟩ := hrel
    have HP := Lib.hid hp
    clear hp
    by_cases hlt : j < ts.length
    · obtain ⟨b, o, t, rfl, hD, hx, hf, c0, c1, c2⟩ := (ht.now hb).at_ hlt
      have hcall := HF.out t wr (List.mem_of_getElem? hx) hf hb
      have HX := Lib.hid hx
      clear hx
      generalize hq : p t = q at *
      have HQ := Lib.hid hq
      unfold valV at hcall
      have HC := Lib.hid hcall
      clear hcall hq
      cases q
      · go_wp2_with (go_at_fn k; refine HC.out.mono ?_; rintro e w' ⟨rfl, hb'⟩)
        go_roundw
        case rel =>
          refine ⟨j + 1, by omega, by go_num, fun q y hq hy => ?_, bthen hb hb'⟩
          by_cases e : q = j
          · subst e; rw [HX.out] at hy; injection hy with hy; subst hy; exact HQ.out
          · exact HP.out q y (by omega) hy
        case measure => simp [intOf]; omega
      · go_wp2_with (go_at_fn k; refine HC.out.mono ?_; rintro e w' ⟨rfl, hb'⟩)
        go_ret
        refine ⟨_, rfl, ?_, bthen hb hb'⟩
        rw [List.any_eq_true.2 ⟨t, List.mem_of_getElem? HX.out, HQ.out⟩]
        simp
    · go_wp2_with fail
      go_ret
      refine ⟨_, rfl, ?_, hb⟩
      rw [any_false_of _ ts (fun q y hq hy => HP.out q y (by omega) hy)]
      simp
theorem containsFuncV (k : FuncId) (eg : ∀ args w, (callFunc k args).run Tryz.prog w = .ok (.enter k args) w) (tv : Value) (ts : List Val) (p : Val → Bool) (w : World) (ht : SlV (Lt w.heap.size) w tv ts) (hf : AsksV k w ts p) :
    Calls Tryz.prog 41 #[tv, .func (.func k) #[] #[]] w fun e w' => e = .returned (.bool (ts.any p)) ∧ Below w.heap.size w w' := by
  have HC := Lib.hid (indexFuncV k eg tv ts p w ht hf)
  clear hf ht
  go_enter Tryz.func41, Tryz.ntmps41
  go_wp2_with (go_at_call 73; refine HC.out.mono ?_; rintro e w' ⟨z, rfl, hz, hb'⟩)
  go_ret
  exact ⟨rfl, hb'⟩

set_option maxHeartbeats 400000 in
theorem valid1_any (v : Val) (w : World) (hf : FitV v) : Calls Tryz.prog 93 #[valV v] w fun e w' => e = .returned (.bool (!validV v)) ∧ Below w.heap.size w w' := by
  have hb := bone w (.cells #[.int .i64 v.kind, .int .i64 v.n, .string v.s] 23)
  unfold valV
  go_enter Tryz.func93, Tryz.ntmps93
  go_wp2_with fail
  refine (validV_any v _ hf).mono ?_
  rintro e w2 ⟨rfl, hb2⟩
  generalize hq : validV v = q
  have HQ := Lib.hid hq
  clear hq
  go_wp2_with fail
  go_ret
  exact ⟨ret_bool (by rw [HQ.out]), bthen hb hb2⟩
theorem any_not_allV (l : List Val) : (l.any fun x => !validV x) = !l.all validV := by
  induction l with
  | nil => rfl
  | cons a m ih => simp [List.any_cons, List.all_cons, ih]
def okB (l : List Var) (vs : List Val) : Bool := varsB l && vs.all validV
set_option maxHeartbeats 400000 in
theorem valid_any (l : List Var) (vs : List Val) (u v : Value) (w : World) (h : SlX (Lt w.heap.size) w u l) (hv : SlV (Lt w.heap.size) w v vs) (hl : l.length ≤ 1000000) :
    Calls Tryz.prog 63 #[u, v] w fun e w' => e = .returned (.bool (okB l vs)) ∧ Below w.heap.size w w' := by
  have eg : ∀ args w, (callFunc 93 args).run Tryz.prog w = .ok (.enter 93 args) w := enters_of Tryz.func93 (by kernel_rfl) rfl
  go_enter Tryz.func63, Tryz.ntmps63
  go_wp2_with fail
  refine (validVars_any l u _ h hl).mono ?_
  rintro e w2 ⟨rfl, hb2⟩
  have HO : Hid (okB l vs = (varsB l && vs.all validV)) := rfl
  generalize varsB l = q at *
  cases q
  · go_wp2_with fail
    go_ret
    exact ⟨ret_bool (by rw [HO.out]; rfl), hb2⟩
  · go_wp2_with fail
    refine (containsFuncV _ eg v vs (fun x => !validV x) _ (hv.now hb2) (fun x w1 _ hf _ => valid1_any x w1 hf)).mono ?_
    rintro e w3 ⟨rfl, hb3⟩
    rw [any_not_allV]
    generalize vs.all validV = p at *
    go_wp2_with fail
    go_ret
    exact ⟨ret_bool (by rw [HO.out]; simp), bthen hb2 hb3⟩

set_option maxHeartbeats 400000 in
theorem validAll_ref (vs : List Val) (v : Value) (w : World) (hv : SlV (Lt w.heap.size) w v vs) :
    Calls Tryz.prog 26 #[v] w fun e w' => e = .returned (.bool (vs.all validV)) ∧ Below w.heap.size w w' := by
  obtain ⟨A, c, rfl, h1, h2, ht⟩ := hv.open_
  clear hv
  go_enter Tryz.func26, Tryz.ntmps26
  go_wp2_with fail
  go_loopw [3] (fun i wr => ∃ j : Nat, j ≤ vs.length ∧ i = .int .i64 j ∧ (∀ q t, q < j → vs[q]? = some t → validV t = true) ∧ Below w.heap.size w wr) (fun i _ => vs.length - (intOf i).toNat)
  case atStart => exact ⟨0, Nat.zero_le _, rfl, fun q _ h => absurd h (by omega), Below.refl _ _⟩
  case round =>
    obtain ⟨j, hj, rfl, hp, hb⟩ := hrel
    have HP := Lib.hid hp
    clear hp
    by_cases hlt : j < vs.length
    · obtain ⟨b, o, t, rfl, hD, hx, hf, c0, c1, c2⟩ := (ht.now hb).at_ hlt
      have HX := Lib.hid hx
      clear hx
      have hcall := validV_ref t wr hf
      unfold valV at hcall
      generalize hq : validV t = q at *
      have HQ := Lib.hid hq
      have HC := Lib.hid hcall
      clear hcall hq
      cases q
      · have HE : Hid (vs.all validV = false) := by
          show _ = _
          rw [List.all_eq_false]
          exact ⟨t, List.mem_of_getElem? HX.out, by rw [HQ.out]; simp⟩
        go_wp2_with (go_at_call 14; refine HC.out.mono ?_; rintro e w' ⟨rfl, hb'⟩)
        go_ret
        exact ⟨ret_bool HE.out.symm, bthen hb hb'⟩
      · go_wp2_with (go_at_call 14; refine HC.out.mono ?_; rintro e w' ⟨rfl, hb'⟩)
        go_roundw
        case rel =>
          refine ⟨j + 1, by omega, by go_num, fun q y hq hy => ?_, bthen hb hb'⟩
          by_cases e : q = j
          · subst e; rw [HX.out] at hy; injection hy with hy; subst hy; exact HQ.out
          · exact HP.out q y (by omega) hy
        case measure => simp [intOf]; omega
    · have HE : Hid (vs.all validV = true) := by
        show _ = _
        rw [List.all_eq_true]
        intro x hx
        obtain ⟨q, hq, rfl⟩ := List.mem_iff_getElem.1 hx
        exact HP.out q _ (by omega) (List.getElem?_eq_getElem hq)
      go_wp2_with fail
      go_ret
      exact ⟨ret_bool HE.out.symm, hb⟩

def firstV (l : List Var) : List Val := l.map fun x => nthV x 0
theorem firstV_snoc {l : List Var} {k : Nat} {x : Var} (h : l[k]? = some x) : firstV (l.take (k + 1)) = firstV (l.take k) ++ [nthV x 0] := by
  unfold firstV
  rw [List.take_add_one, h, List.map_append]; rfl
theorem vars_each {l : List Var} (h : varsB l = true) {k : Nat} {x : Var} (hx : l[k]? = some x) : varB x = true := by
  unfold varsB at h
  simp only [Bool.and_eq_true] at h
  exact List.all_eq_true.1 h.1.2 x (List.mem_of_getElem? hx)
theorem vars_len {l : List Var} (h : varsB l = true) : l.length ≤ 8 := by
  unfold varsB at h
  simp only [Bool.and_eq_true, decide_eq_true_eq] at h
  exact h.1.1
theorem size_pos {x : Var} (h : Tame x) : 1 ≤ sizeV x := by
  obtain ⟨nm, k, lo, hi, its⟩ := x
  obtain ⟨_, _, ld, lk, li⟩ := h
  dsimp only at ld lk li
  rcases lk with rfl | rfl | rfl
  · show (1 : Int) ≤ 2; omega
  · show 1 ≤ hi - lo + 1; have := ld rfl; omega
  · show (1 : Int) ≤ its.length; have := li rfl; omega
theorem vars_items {D : Nat → Prop} {w : World} {u : Value} {l : List Var} (h : SlX D w u l) : ∀ x ∈ l, ∀ z ∈ x.items, z.size ≤ maxLen := by
  obtain ⟨A, c, rfl, h1, h2, h⟩ := h.open_
  intro x hx
  obtain ⟨k, hk, rfl⟩ := List.mem_iff_getElem.1 hx
  obtain ⟨b, o, y, iv, _, _, hy, hv, _⟩ := h.at_ hk
  rw [List.getElem?_eq_getElem hk] at hy
  injection hy with hy
  rw [hy]; exact hv.sizes
theorem firstV_fits {D : Nat → Prop} {w : World} {u : Value} {l : List Var} (h : SlX D w u l) (hv : varsB l = true) : ∀ v ∈ firstV l, FitV v := by
  intro v hm
  obtain ⟨x, hx, rfl⟩ := List.mem_map.1 hm
  obtain ⟨k, hk, rfl⟩ := List.mem_iff_getElem.1 hx
  have ht := tame_of (vars_each hv (List.getElem?_eq_getElem hk))
  exact fit_nth ht (i := 0) (by have := size_pos ht; omega) (vars_items h _ hx)
def firstE (l : List Var) : List Val × Int := if varsB l then (firstV l, 0) else ([], 1)
/-- What returns a list of values beside a number. -/
def RetVE (vs : List Val) (z : Int) (w : World) (e : Ending) (w' : World) : Prop := ∃ v, e = .returned (.tuple #[v, .int .i64 z]) ∧ SlV (Lt w'.heap.size) w' v vs ∧ Below w.heap.size w w'

set_option maxHeartbeats 1000000 in
theorem firstE_any (l : List Var) (u : Value) (w : World) (h : SlX (Lt w.heap.size) w u l) (hl : l.length ≤ 1000000) :
    Calls Tryz.prog 22 #[u] w (RetVE (firstE l).1 (firstE l).2 w) := by
  have hfv := firstV_fits h
  obtain ⟨A, c, rfl, h1, h2, ht⟩ := h.open_
  have HF := Lib.hid hfv
  clear h hfv
  go_enter Tryz.func22, Tryz.ntmps22
  go_wp2_with fail
  refine (validVars_any l _ _ ht hl).mono ?_
  rintro e w2 ⟨rfl, hb2⟩
  have hx2 := ht.now hb2
  generalize hq : varsB l = q
  have HQ := Lib.hid hq
  clear hq
  cases q
  · have HE : Hid (firstE l = ([], 1)) := by show _ = _; unfold firstE; rw [HQ.out]; rfl
    go_wp2_with fail
    go_ret2
    rw [HE.out]
    exact ⟨_, rfl, Sl.none_, hb2⟩
  have HE : Hid (firstE l = (firstV l, 0)) := by show _ = _; unfold firstE; rw [HQ.out]; rfl
  have h8 := vars_len HQ.out
  go_wp2_with fail
  go_loopw [4, 12] (fun ov i wr => ∃ j : Nat, j ≤ l.length ∧ i = .int .i64 j ∧ OwnV wr w2.heap.size ov (firstV (l.take j)) ∧ Below w2.heap.size w2 wr) (fun _ i _ => l.length - (intOf i).toNat)
  case atStart => exact ⟨0, Nat.zero_le _, rfl, OwnW.nil, Below.refl _ _⟩
  case round =>
    obtain ⟨j, hj, rfl, hown, hb⟩ := hrel
    by_cases hlt : j < l.length
    · obtain ⟨b, o, x, iv, rfl, hD, hx, hvar, hiv, c0, c1, c2, c3, c4⟩ := (hx2.now hb).at_ hlt
      have HX := Lib.hid hx
      have htm := tame_of (vars_each HQ.out hx)
      have hs1 := size_pos htm
      clear hx
      obtain ⟨A2, k2, rfl, g1, g2, hiv⟩ := hiv.open_
      have hb1 := bone wr (.cells #[.string x.name, .int .i64 x.kind, .int .i64 x.low, .int .i64 x.high, .slice A2 x.items.length k2] 29)
      have hvar1 := hvar.now hb1
      have hown1 := hown.now hb1
      go_wp2_with fail
      refine (nth_any x 0 _ _ hvar1 htm (by omega)).mono ?_
      rintro e w3 ⟨rfl, hb3⟩
      have hown3 := hown1.now hb3
      have hb13 := bthen hb1 hb3
      have hlen : (firstV (l.take j)).length < 10000000 := by unfold firstV; rw [List.length_map, List.length_take]; omega
      have hsz3 : w2.heap.size ≤ w3.heap.size := Nat.le_trans hb.size hb13.size
      have HS := Lib.hid (firstV_snoc HX.out)
      unfold valV
      have hz : ((0 : Nat) : Int) = 0 := rfl
      rw [hz]
      go_wp2_with (at_builtin; refine wpList_pushW (fc := cellsV) appVals rfl (.tmp 16) (.tmp 19) rfl w3 (nthV x 0) (firstV (l.take j)) rfl (cellsV_one _) _ rfl hown3 rfl hlen hsz3 ?_; intro v' w' hown' hgr hat)
      have hbg : Below w2.heap.size w3 w' := below_of_grown hgr hsz3 (fun g hg => (World.ownsRow.lt hown3 g hg).1)
      go_roundw
      case rel =>
        refine ⟨j + 1, by omega, by go_num, ?_, (hb.trans (hb13.mono hb.size)).trans hbg⟩
        rw [HS.out]; exact hown'
      case measure => simp [intOf]; omega
    · obtain rfl : j = l.length := by omega
      rw [List.take_of_length_le (Nat.le_refl _)] at hown
      go_wp2_with fail
      go_ret2
      rw [HE.out]
      exact ⟨_, rfl, hown.sl (HF.out HQ.out), bthen hb2 hb⟩

/-- What returns a list of values alone. -/
def RetV (vs : List Val) (w : World) (e : Ending) (w' : World) : Prop := ∃ v, e = .returned v ∧ SlV (Lt w'.heap.size) w' v vs ∧ Below w.heap.size w w'
set_option maxHeartbeats 1000000 in
theorem first_ref (l : List Var) (u : Value) (w : World) (h : SlX (Lt w.heap.size) w u l) (hv : varsB l = true) :
    Calls Tryz.prog 25 #[u] w (RetV (firstV l) w) := by
  have hfv := firstV_fits h hv
  obtain ⟨A, c, rfl, h1, h2, ht⟩ := h.open_
  have HF := Lib.hid hfv
  have HQ := Lib.hid hv
  clear h hfv hv
  have h8 := vars_len HQ.out
  go_enter Tryz.func25, Tryz.ntmps25
  go_wp2_with fail
  go_loopw [3, 4] (fun ov i wr => ∃ j : Nat, j ≤ l.length ∧ i = .int .i64 j ∧ OwnV wr w.heap.size ov (firstV (l.take j)) ∧ Below w.heap.size w wr) (fun _ i _ => l.length - (intOf i).toNat)
  case atStart => exact ⟨0, Nat.zero_le _, rfl, OwnW.nil, Below.refl _ _⟩
  case round =>
    obtain ⟨j, hj, rfl, hown, hb⟩ := hrel
    by_cases hlt : j < l.length
    · obtain ⟨b, o, x, iv, rfl, hD, hx, hvar, hiv, c0, c1, c2, c3, c4⟩ := (ht.now hb).at_ hlt
      have HX := Lib.hid hx
      have hvx := vars_each HQ.out hx
      have htm := tame_of hvx
      have hz1 : x.kind = 1 → x.low = 0 := fun h => low_zero hvx (by omega)
      have hs1 := size_pos htm
      clear hx
      go_wp2_with fail
      refine (nth_ref x 0 _ _ hvar htm hz1 (by omega)).mono ?_
      rintro e w3 ⟨rfl, hb3⟩
      have hown3 := hown.now hb3
      have hlen : (firstV (l.take j)).length < 10000000 := by unfold firstV; rw [List.length_map, List.length_take]; omega
      have hsz3 : w.heap.size ≤ w3.heap.size := Nat.le_trans hb.size hb3.size
      have HS := Lib.hid (firstV_snoc HX.out)
      unfold valV
      have hz : ((0 : Nat) : Int) = 0 := rfl
      rw [hz]
      clear hz1
      go_wp2_with (at_builtin; refine wpList_pushW (fc := cellsV) appVals rfl (.tmp 11) (.tmp 17) rfl w3 (nthV x 0) (firstV (l.take j)) rfl (cellsV_one _) _ rfl hown3 rfl hlen hsz3 ?_; intro v' w' hown' hgr hat)
      have hbg : Below w.heap.size w3 w' := below_of_grown hgr hsz3 (fun g hg => (World.ownsRow.lt hown3 g hg).1)
      go_roundw
      case rel =>
        refine ⟨j + 1, by omega, by go_num, ?_, (bthen hb hb3).trans hbg⟩
        rw [HS.out]; exact hown'
      case measure => simp [intOf]; omega
    · obtain rfl : j = l.length := by omega
      rw [List.take_of_length_le (Nat.le_refl _)] at hown
      go_wp2_with fail
      go_ret
      exact ⟨_, rfl, hown.sl HF.out, hb⟩
end Go.Proofs.YtchfmjociflgfaaGreatDoor
