/- Merged texts. -/
import Derived.Deep.DeepCutAuto
import Derived.Test.YtlmenhjlgmejkaaGreatDoorPl15
set_option linter.all false
namespace Go.Proofs.YtlmenhjlgmejkaaGreatDoor
open Go.RowKit
theorem eval_state {vs : List Var} {vals : List Val} {x : Ex} {k : Int} (h : typedB vs x k = true) (ha : asgB vs vals = true) : evalE vs vals x = match evX vs vals x with | some a => (a, 0) | none => (noV, 6) := by
  obtain ⟨g1, g2, g3, _⟩ := typed_given h
  have hg : givenE vs x = typX vs x := by unfold givenE; rw [g1, g2]; rfl
  unfold asgB at ha
  rw [Bool.and_eq_true, decide_eq_true_eq] at ha
  unfold evalE
  rw [hg, if_neg (by rw [g3]; simp), if_pos ha]
  cases evX vs vals x <;> rfl
theorem guard_at {d : DNet} (hv : dvalidB d = true) {t : Nat} {x : Ex} (h : d.guards[t]? = some x) : typedB d.vars x 1 = true := by
  obtain ⟨_, _, _, _, p, _⟩ := dvalid_parts hv
  rw [List.all_eq_true] at p
  exact p x (List.mem_of_getElem? h)
theorem vstate_parts {d : DNet} {s : St} (h : vstateB d s = true) : dvalidB d = true ∧ stateB d s = true := by
  unfold vstateB at h
  simpa using h
theorem evalE_code {vs : List Var} {vals : List Val} {x : Ex} {k : Int} (h : typedB vs x k = true) (ha : asgB vs vals = true) :
    (∃ a, evX vs vals x = some a ∧ evalE vs vals x = (a, 0) ∧ validV a = true) ∨ (evX vs vals x = none ∧ evalE vs vals x = (noV, 6)) := by
  rw [eval_state h ha]
  obtain ⟨g1, g2, g3, _⟩ := typed_given h
  cases he : evX vs vals x with
  | none => exact .inr ⟨rfl, rfl⟩
  | some a => exact .inl ⟨a, rfl, rfl, (ev_typed (asg_typed ha) x (valid_ok g1) g3 a he).2⟩
theorem fireD_out {d : DNet} {s : St} {t : Int} (h : t < 0 ∨ (d.net.trans.length : Int) ≤ t) : fireD d s t = (noSt, 2) := by unfold fireD; rw [if_pos h]
theorem fireD_in {d : DNet} {s : St} {k : Nat} (h : k < d.net.trans.length) : fireD d s (k : Int) =
    if (fireB d.net s.marks k).2 = 12 then (noSt, 12)
    else if guardB d.vars s.vals ((d.guards[k]?).getD (.mk 0 noV emptyS [])) = false then (noSt, 21)
    else match wrsV d.vars s.vals ((d.writes[k]?).getD []) s.vals with
    | none => (noSt, 11)
    | some vs => if (fireB d.net s.marks k).2 ≠ 0 then (noSt, (fireB d.net s.marks k).2) else (⟨(fireB d.net s.marks k).1, vs⟩, 0) := by
  unfold fireD
  rw [if_neg (by omega), Int.toNat_natCast]
  rfl
theorem wrsV_drop {vs : List Var} {vals : List Val} {l : List Wr} {k : Nat} {y : Wr} (hx : l[k]? = some y) (cur : List Val) :
    wrsV vs vals (l.drop k) cur = match evX vs vals y.x with
      | none => none
      | some a => if 0 ≤ placeW vs y.var a then wrsV vs vals (l.drop (k + 1)) (cur.set y.var.toNat a) else none := by
  have hk : k < l.length := lt_of_get hx
  rw [List.getElem?_eq_getElem hk] at hx
  injection hx with hx
  rw [List.drop_eq_getElem_cons hk, hx, wrsV]
  cases evX vs vals y.x <;> rfl
theorem wrsB_get {vs : List Var} : ∀ (l : List Wr) (a : Int), -1 ≤ a → wrsB vs a l = true → ∀ y ∈ l, 0 ≤ y.var ∧ y.var < vs.length ∧ typedB vs y.x (kindAt vs y.var) = true
  | [], _, _, _, y, hy => by simp at hy
  | x :: l, a, ha, h, y, hy => by
    rw [wrsB] at h
    simp only [Bool.and_eq_true, decide_eq_true_eq] at h
    obtain ⟨⟨⟨w1, w2⟩, w3⟩, w4⟩ := h
    rcases List.mem_cons.1 hy with rfl | hy
    · exact ⟨by omega, w2, w3⟩
    · exact wrsB_get l x.var (by omega) w4 y hy
set_option maxHeartbeats 4000000 in
set_option maxRecDepth 100000 in
theorem holds_any (n : Nat) (d : DNet) (s : St) (t : Nat) (u us : Value) (w : World) (h : IsDn n (Lt w.heap.size) w u d) (hs : IsSt (Lt w.heap.size) w us s) (hv : vstateB d s = true) (ht : t < d.net.trans.length) (hl : d.vars.length ≤ 1000000) :
    Calls Tryz.prog 106 #[u, us, .int .i64 t] w fun e w' => e = .returned (.bool (guardB d.vars s.vals ((d.guards[t]?).getD (.mk 0 noV emptyS [])))) ∧ Below w.heap.size w w' := by
  obtain ⟨At, ct, Ax, cx, iv, Ag, cg, Aw, cw, rfl, dn1, dn2, dn3, dn4, dn5, ⟨t1, t2⟩, ⟨x1, x2⟩, ⟨g1, g2⟩, v1, v2⟩ := h.open_
  obtain ⟨Am, cm, Av, cv, rfl, s1, s2, ⟨t3, t4⟩, t5, t6⟩ := hs.open_
  clear h hs
  obtain ⟨hdv, hst⟩ := vstate_parts hv
  obtain ⟨_, _, hasg⟩ := state_parts hst
  have hgl : t < d.guards.length := by
    have := (dvalid_parts hdv).2.2.1
    omega
  have hb0 := bone w (.cells #[.int .i64 d.net.places, .slice At d.net.trans.length ct, .int .i64 d.net.source, .int .i64 d.net.sink, .slice Ax d.vars.length cx, iv, .slice Ag d.guards.length cg, .slice Aw d.writes.length cw] 30)
  have hb := bbox hb0 (.cells #[.slice Am s.marks.length cm, .slice Av s.vals.length cv] 33)
  have hB := (Blk.new w 30 #[.int .i64 d.net.places, .slice At d.net.trans.length ct, .int .i64 d.net.source, .int .i64 d.net.sink, .slice Ax d.vars.length cx, iv, .slice Ag d.guards.length cg, .slice Aw d.writes.length cw]).alloc (.cells #[.slice Am s.marks.length cm, .slice Av s.vals.length cv] 33)
  have hC := Blk.new_at (t := 33) (cs := #[.slice Am s.marks.length cm, .slice Av s.vals.length cv]) (w := w.alloc (.cells #[.int .i64 d.net.places, .slice At d.net.trans.length ct, .int .i64 d.net.source, .int .i64 d.net.sink, .slice Ax d.vars.length cx, iv, .slice Ag d.guards.length cg, .slice Aw d.writes.length cw] 30)) (s := w.heap.size + 1) (by simp)
  have hx1 := dn2.now hb
  have hg1 := SlE.now dn4 hb
  have hv1 := s2.now hb
  clear dn1 dn2 dn3 dn4 dn5 s1 s2 hb0
  go_enter Tryz.func106, Tryz.ntmps106
  go_upto_region 1 with fail
  generalize hw1e : (w.alloc (.cells #[.int .i64 d.net.places, .slice At d.net.trans.length ct, .int .i64 d.net.source, .int .i64 d.net.sink, .slice Ax d.vars.length cx, iv, .slice Ag d.guards.length cg, .slice Aw d.writes.length cw] 30)).alloc (.cells #[.slice Am s.marks.length cm, .slice Av s.vals.length cv] 33) = w1 at *
  clear hw1e
  have hsz : w.heap.size + 2 ≤ w1.heap.size := by have := hC.lt; omega
  obtain ⟨bG, oG, x, lv, n', hn, rfl, hDG, hxx, hex, hfv, hsl, e0, e1, e2, e3, e4, e5⟩ := hg1.at_ hgl
  obtain ⟨A2, c2', rfl, m1, m2, _⟩ := hsl.open_
  have hty := guard_at hdv hxx
  have HGD : Hid (guardB d.vars s.vals ((d.guards[t]?).getD (.mk 0 noV emptyS [])) = match evX d.vars s.vals x with | some a => decide (a.n = 1) | none => false) := by show _ = _; rw [hxx]; rfl
  have HEV := Lib.hid (evalE_code hty hasg)
  have HCL : Hid (∀ W, Below w1.heap.size w1 W → Calls Tryz.prog 107 #[.slice Ax d.vars.length cx, .slice Av s.vals.length cv, .agg #[.int .i64 x.op, .int .i64 x.v.kind, .int .i64 x.v.n, .string x.v.s, .string x.s, .slice A2 x.l.length c2']] W fun e w' => e = .returned (.tuple #[.agg #[.int .i64 (evalE d.vars s.vals x).1.kind, .int .i64 (evalE d.vars s.vals x).1.n, .string (evalE d.vars s.vals x).1.s], .int .i64 (evalE d.vars s.vals x).2]) ∧ Below w1.heap.size w1 w' ∧ Below W.heap.size W w') :=
    fun W hW => (evalE_any n' d.vars s.vals x W _ _ _ (hx1.now hW) (hv1.now hW) (hex.now hW) hl).mono fun e w' ⟨he, hb⟩ => ⟨he, bthen hW hb, hb⟩
  have HS : Hid (∀ W, Below w1.heap.size w1 W → W.cell? ⟨w.heap.size, 4, none⟩ = some (.slice Ax d.vars.length cx) ∧ W.cell? ⟨w.heap.size, 6, none⟩ = some (.slice (some ⟨bG, oG, none⟩) d.guards.length cg) ∧ W.cell? ⟨w.heap.size + 1, 1, none⟩ = some (.slice Av s.vals.length cv) ∧ W.cell? ⟨bG, oG + t * 6, none⟩ = some (.int .i64 x.op) ∧ W.cell? ⟨bG, oG + t * 6 + 1, none⟩ = some (.int .i64 x.v.kind) ∧ W.cell? ⟨bG, oG + t * 6 + 2, none⟩ = some (.int .i64 x.v.n) ∧ W.cell? ⟨bG, oG + t * 6 + 3, none⟩ = some (.string x.v.s) ∧ W.cell? ⟨bG, oG + t * 6 + 4, none⟩ = some (.string x.s) ∧ W.cell? ⟨bG, oG + t * 6 + 5, none⟩ = some (.slice A2 x.l.length c2')) := fun W hW => ⟨(hB.now hW).c8.2.2.2.2.1, (hB.now hW).c8.2.2.2.2.2.2.1, (hC.now hW).c2.2, (hW.cell (p := ⟨bG, _, none⟩) hDG).trans e0, (hW.cell (p := ⟨bG, _, none⟩) hDG).trans e1, (hW.cell (p := ⟨bG, _, none⟩) hDG).trans e2, (hW.cell (p := ⟨bG, _, none⟩) hDG).trans e3, (hW.cell (p := ⟨bG, _, none⟩) hDG).trans e4, (hW.cell (p := ⟨bG, _, none⟩) hDG).trans e5⟩
  generalize evalE d.vars s.vals x = p at *
  clear hxx hex hfv hsl hn hv hdv hst hasg hty e0 e1 e2 e3 e4 e5 hx1 hg1 hv1
  have i1 : (0 : Int) ≤ (t : Int) := by omega
  have i2 : (t : Int) < (d.guards.length : Int) := by omega
  go_cut [7, 8] (fun s7 s8 W => ∃ g, s7 = .pointer (some ⟨g, 0, none⟩) ∧ s8 = .int .i64 p.2 ∧ Blk W g 63 #[.int .i64 p.1.kind, .int .i64 p.1.n, .string p.1.s] ∧ Below w1.heap.size w1 W)
  case first =>
    have hbd : Below w1.heap.size w1 w1.drew := (Below.refl _ _).drew
    have hbz : Below w1.heap.size w1 (w1.alloc (.cells #[.int .i64 0, .int .i64 0, .string ⟨#[]⟩] 63)).drew := (bone w1 (.cells #[.int .i64 0, .int .i64 0, .string ⟨#[]⟩] 63)).drew
    obtain ⟨a0, a1, a2, d0, d1, d2, d3, d4, d5⟩ := HS.out _ hbd
    go_region_held3 (fun W => W.cell? ⟨w.heap.size, 4, none⟩ = some (.slice Ax d.vars.length cx) ∧ W.cell? ⟨w.heap.size, 6, none⟩ = some (.slice (some ⟨bG, oG, none⟩) d.guards.length cg) ∧ W.cell? ⟨w.heap.size + 1, 1, none⟩ = some (.slice Av s.vals.length cv) ∧ W.cell? ⟨bG, oG + t * 6, none⟩ = some (.int .i64 x.op) ∧ W.cell? ⟨bG, oG + t * 6 + 1, none⟩ = some (.int .i64 x.v.kind) ∧ W.cell? ⟨bG, oG + t * 6 + 2, none⟩ = some (.int .i64 x.v.n) ∧ W.cell? ⟨bG, oG + t * 6 + 3, none⟩ = some (.string x.v.s) ∧ W.cell? ⟨bG, oG + t * 6 + 4, none⟩ = some (.string x.s) ∧ W.cell? ⟨bG, oG + t * 6 + 5, none⟩ = some (.slice A2 x.l.length c2')) (first | exact HS.out _ (by assumption) | exact HS.out _ (bbox (by assumption) _) | exact HS.out _ (bset3 (by assumption) (by simp) _ _ _))
      (first | (go_at_call 107; (with_reducible refine (HCL.out _ (by assumption)).mono ?_); rintro e w6 ⟨rfl, hb6, hb7⟩; (try (have hZ := (Blk.new w1 63 #[.int .i64 0, .int .i64 0, .string ⟨#[]⟩]).drew.now hb7; obtain ⟨z0, z1, z2⟩ := hZ.c3; have f0 := hZ.frozen 0; have f1 := hZ.frozen 1; have f2 := hZ.frozen 2))))
    all_goals (go_wp2_with fail; go_meet)
    all_goals
      first
        | exact ⟨_, rfl, rfl, Blk.new _ _ _, bbox (by assumption) _⟩
        | exact ⟨_, rfl, rfl, Blk.set3 (by assumption) _ _ _, bset3 (by assumption) (by simp) _ _ _⟩
  case rest =>
    obtain ⟨g, rfl, rfl, hP, hbw⟩ := hcut
    obtain ⟨z0, z1, z2⟩ := hP.c3
    obtain ⟨⟨pk, pn, ps⟩, pc⟩ := p
    dsimp only at *
    rcases HEV.out with ⟨a, ha, hp, _⟩ | ⟨ha, hp⟩
    · injection hp with hp1 hp2
      subst hp2
      have HR : Hid (guardB d.vars s.vals ((d.guards[t]?).getD (.mk 0 noV emptyS [])) = (pn == 1)) := by show _ = _; rw [HGD.out, ha, ← hp1]; rfl
      clear hp1 ha HEV HGD
      go_wp2_with fail
      go_ret
      exact ⟨ret_bool HR.out.symm, bthen hb hbw⟩
    · injection hp with hp1 hp2
      subst hp2
      have HR : Hid (guardB d.vars s.vals ((d.guards[t]?).getD (.mk 0 noV emptyS [])) = false) := by show _ = _; rw [HGD.out, ha]
      clear hp1 ha HEV HGD
      go_wp2_with fail
      go_ret
      exact ⟨ret_bool HR.out.symm, bthen hb hbw⟩
theorem vars_at {vs : List Var} (h : varsB vs = true) {x : Var} (hx : x ∈ vs) : varB x = true := by
  unfold varsB at h
  simp only [Bool.and_eq_true] at h
  obtain ⟨⟨_, h⟩, _⟩ := h
  rw [List.all_eq_true] at h
  exact h x hx
theorem inE_ok {x : Var} {v : Val} (h : varB x = true) (hv : validV v = true) : inE x v = (decide (0 ≤ placeV x v), 0) := by
  unfold inE; rw [h, hv]; rfl
theorem placeW_at {vs : List Var} {t : Nat} {x : Var} (h : vs[t]? = some x) (a : Val) : placeW vs (t : Int) a = placeV x a := by
  unfold placeW; rw [Int.toNat_natCast, h]
theorem SlV.weak {B : Nat} {w : World} {v : Value} {zs : List Val} (h : SlV (Fr B w) w v zs) : SlV (Lt w.heap.size) w v zs := Sl.keep h RVal.kept (fun _ hb => hb.2) (Same.refl _ _)
theorem SlV.nowF {B : Nat} {w w' : World} {v : Value} {zs : List Val} (h : SlV (Fr B w) w v zs) (hb : Below w.heap.size w w') : SlV (Fr B w') w' v zs :=
  Sl.keep h RVal.kept (fun _ hx => ⟨hx.1, Nat.lt_of_lt_of_le hx.2 hb.size⟩) (fun b hx => hb.block b hx.2)
theorem SlV.from_ {B B' : Nat} {w : World} {v : Value} {zs : List Val} (h : SlV (Fr B w) w v zs) (hb : B' ≤ B) : SlV (Fr B' w) w v zs :=
  Sl.keep h RVal.kept (fun _ hx => ⟨Nat.le_trans hb hx.1, hx.2⟩) (Same.refl _ _)
theorem SlI.set2F {B : Nat} {w : World} {g : Nat} {t : TypeId} {v : Value} {xs : List Int} {a b : Option Addr} {i j k l : Nat} (h : SlI (Fr B w) w v xs) (hg : Blk w g t #[.slice a i j, .slice b k l]) (x y : Value) :
    SlI (Fr B ((w.setCell ⟨g, 0, none⟩ x).setCell ⟨g, 1, none⟩ y)) ((w.setCell ⟨g, 0, none⟩ x).setCell ⟨g, 1, none⟩ y) v xs :=
  Sl.keep (Sl.past (fun _ _ _ _ _ h => h) (fun _ _ z cs h => ⟨z, by rw [h.1]; rfl⟩) h hg) RInt.kept (fun b hb => ⟨hb.1.1, lt_set2 x y b ⟨hb.1.2, hb.2⟩⟩) (same_set2 (D := Fr B w) x y)
theorem SlV.set2F {B : Nat} {w : World} {g : Nat} {t : TypeId} {v : Value} {xs : List Val} {a b : Option Addr} {i j k l : Nat} (h : SlV (Fr B w) w v xs) (hg : Blk w g t #[.slice a i j, .slice b k l]) (x y : Value) :
    SlV (Fr B ((w.setCell ⟨g, 0, none⟩ x).setCell ⟨g, 1, none⟩ y)) ((w.setCell ⟨g, 0, none⟩ x).setCell ⟨g, 1, none⟩ y) v xs :=
  Sl.keep (Sl.past (fun _ _ _ _ _ h => h) (fun _ _ z cs h => ⟨z.kind, by rw [h.1]; rfl⟩) h hg) RVal.kept (fun b hb => ⟨hb.1.1, lt_set2 x y b ⟨hb.1.2, hb.2⟩⟩) (same_set2 (D := Fr B w) x y)
theorem OwnV.fresh {w : World} {base B : Nat} {v : Value} {vs : List Val} (h : OwnV w base v vs) (hB : B ≤ base) (hf : ∀ x ∈ vs, FitV x) : SlV (Fr B w) w v vs :=
  Sl.of_own h rfl (fun g hg => by have := own_lt h g hg; have h2 := World.ownsRow.lt h g hg; exact ⟨by omega, this⟩) fun i x hx => ⟨cellsV x, cellsV_len x, fun j u hu => by
    have hj : j < 3 := by
      rcases Nat.lt_or_ge j (cellsV x).length with h' | h'
      · exact h'
      · rw [List.getElem?_eq_none h'] at hu; cases hu
    rw [flat_get cellsV_len vs i j x hx hj]; exact hu, ⟨rfl, hf x (List.mem_of_getElem? hx)⟩⟩
def RetStF (s : St) (c : Int) (w : World) (e : Ending) (w' : World) : Prop := ∃ u, e = .returned (.tuple #[u, .int .i64 c]) ∧ IsSt (Fr w.heap.size w') w' u s ∧ Below w.heap.size w w'
theorem IsSt.weak {B : Nat} {w : World} {u : Value} {s : St} (h : IsSt (Fr B w) w u s) : IsSt (Lt w.heap.size) w u s := by
  obtain ⟨mv, vv, e, h1, h2⟩ := h
  exact ⟨mv, vv, e, h1.weak, h2.weak⟩
theorem RetStF.weak {s : St} {c : Int} {w w' : World} {e : Ending} (h : RetStF s c w e w') : RetSt s c w e w' := by
  obtain ⟨u, he, h1, h2⟩ := h
  exact ⟨u, he, h1.weak, h2⟩
theorem fits_set {vs : List Val} (h : ∀ x ∈ vs, FitV x) (k : Nat) {y : Val} (hy : FitV y) : ∀ x ∈ vs.set k y, FitV x := by
  intro x hx
  rcases List.mem_or_eq_of_mem_set hx with h' | h'
  · exact h x h'
  · rw [h']; exact hy
theorem fit_valid {v : Val} (h : validV v = true) : FitV v := by
  cases kinds_of h with
  | no => exact ⟨by unfold Fit; dsimp only; omega, by unfold Fit; dsimp only; omega, by show (0 : Nat) ≤ _; omega⟩
  | yes => exact ⟨by unfold Fit; dsimp only; omega, by unfold Fit; dsimp only; omega, by show (0 : Nat) ≤ _; omega⟩
  | num n =>
    have h1 : numB n = true := (valid2 h rfl).1
    unfold numB at h1
    rw [decide_eq_true_eq] at h1
    exact ⟨by unfold Fit; dsimp only; omega, by unfold Fit; dsimp only; omega, by show (0 : Nat) ≤ _; omega⟩
  | txt s =>
    have h1 := (text_size (valid3 h (show (3 : Int) ≠ 1 by decide) (show (3 : Int) ≠ 2 by decide)).2.2).1
    dsimp only at h1
    exact ⟨by unfold Fit; dsimp only; omega, by unfold Fit; dsimp only; omega, by unfold maxLen; dsimp only; omega⟩
theorem OwnV.at_slot {w : World} {base m kc : Nat} {Ac : Option Addr} {cur : List Val} (h : OwnV w base (.slice Ac m kc) cur) (hm : cur.length = m) (hp : 0 < m) : ∃ g, Ac = some ⟨g, 0, none⟩ ∧ m ≤ kc ∧ base ≤ g ∧ g < w.heap.size := by
  obtain ⟨g, cap, hv, hc, hb, hl⟩ := OwnW.form h (by omega)
  injection hv with e1 e2 e3
  subst e3
  exact ⟨g, e1, by omega, hb, hl⟩
set_option maxHeartbeats 16000000 in
set_option maxRecDepth 100000 in
theorem fire_one (n : Nat) (d : DNet) (s : St) (t : Int) (u us : Value) (w : World) (h : IsDn n (Lt w.heap.size) w u d) (hs : IsSt (Lt w.heap.size) w us s) (hv : vstateB d s = true) (hl : d.vars.length ≤ 1000000) :
    Calls Tryz.prog 66 #[u, us, .int .i64 t] w (RetStF (fireD d s t).1 (fireD d s t).2 w) := by
  have h0 := h
  have hs0 := hs
  obtain ⟨At, ct, Ax, cx, iv, Ag, cg, Aw, cw, rfl, dn1, dn2, dn3, dn4, dn5, ⟨t1, t2⟩, ⟨x1, x2⟩, ⟨g1, g2⟩, v1, v2⟩ := h.open_
  obtain ⟨Am, cm, Av, cv, rfl, s1, s2, ⟨t3, t4⟩, t5, t6⟩ := hs.open_
  clear h hs
  obtain ⟨hdv, hst⟩ := vstate_parts hv
  obtain ⟨hnv, hmk, hasg⟩ := state_parts hst
  obtain ⟨hvb, _, hvl, _⟩ := asg_parts hasg
  have HPT := Lib.hid (dvalid_parts hdv)
  have HV := Lib.hid hv
  have HASG := Lib.hid hasg
  have HVB := Lib.hid hvb
  have HVL := Lib.hid hvl
  have hb0 := bone w (.cells #[.int .i64 d.net.places, .slice At d.net.trans.length ct, .int .i64 d.net.source, .int .i64 d.net.sink, .slice Ax d.vars.length cx, iv, .slice Ag d.guards.length cg, .slice Aw d.writes.length cw] 30)
  have hb1 := bbox hb0 (.cells #[.slice Am s.marks.length cm, .slice Av s.vals.length cv] 33)
  have hb := bbox hb1 (.cells #[.slice none 0 0, .slice none 0 0] 33)
  have hB := ((Blk.new w 30 #[.int .i64 d.net.places, .slice At d.net.trans.length ct, .int .i64 d.net.source, .int .i64 d.net.sink, .slice Ax d.vars.length cx, iv, .slice Ag d.guards.length cg, .slice Aw d.writes.length cw]).alloc (.cells #[.slice Am s.marks.length cm, .slice Av s.vals.length cv] 33)).alloc (.cells #[.slice none 0 0, .slice none 0 0] 33)
  have hC := (Blk.new_at (t := 33) (cs := #[.slice Am s.marks.length cm, .slice Av s.vals.length cv]) (w := w.alloc (.cells #[.int .i64 d.net.places, .slice At d.net.trans.length ct, .int .i64 d.net.source, .int .i64 d.net.sink, .slice Ax d.vars.length cx, iv, .slice Ag d.guards.length cg, .slice Aw d.writes.length cw] 30)) (s := w.heap.size + 1) (by simp)).alloc (.cells #[.slice none 0 0, .slice none 0 0] 33)
  have hZ := Blk.new_at (t := 33) (cs := #[.slice none 0 0, .slice none 0 0]) (w := (w.alloc (.cells #[.int .i64 d.net.places, .slice At d.net.trans.length ct, .int .i64 d.net.source, .int .i64 d.net.sink, .slice Ax d.vars.length cx, iv, .slice Ag d.guards.length cg, .slice Aw d.writes.length cw] 30)).alloc (.cells #[.slice Am s.marks.length cm, .slice Av s.vals.length cv] 33)) (s := w.heap.size + 1 + 1) (by simp)
  have hd1 := h0.now hb
  have hs1 := hs0.now hb
  have hn1 := dn1.now hb
  have hx1 := dn2.now hb
  have hw1 := SlWW.now dn5 hb
  have hm1 := s1.now hb
  have hv1 := s2.now hb
  clear h0 hs0 hb0 hb1 dn1 dn2 dn3 dn4 dn5 s1 s2 hdv hst hasg hvb hvl hv
  have HFE : Hid (fireE d.net s.marks t = fireB d.net s.marks t) := by show _ = _; unfold fireE; rw [hnv, hmk]; rfl
  clear hnv hmk
  go_enter Tryz.func66, Tryz.ntmps66
  go_upto_region 1 with fail
  generalize hw1e : ((w.alloc (.cells #[.int .i64 d.net.places, .slice At d.net.trans.length ct, .int .i64 d.net.source, .int .i64 d.net.sink, .slice Ax d.vars.length cx, iv, .slice Ag d.guards.length cg, .slice Aw d.writes.length cw] 30)).alloc (.cells #[.slice Am s.marks.length cm, .slice Av s.vals.length cv] 33)).alloc (.cells #[.slice none 0 0, .slice none 0 0] 33) = w1 at *
  clear hw1e
  have hsz1 : w.heap.size + 3 ≤ w1.heap.size := by have := hZ.lt; omega
  obtain ⟨q0, q1, q2, q3, q4, q5, q6, q7⟩ := hB.c8
  obtain ⟨y0, y1⟩ := hC.c2
  by_cases c1 : t < 0
  · have HR := Lib.hid (fireD_out (d := d) (s := s) (.inl c1))
    obtain ⟨zz0, zz1⟩ := hZ.c2
    have z0 := hZ.frozen 0
    have z1 := hZ.frozen 1
    go_wp2_with fail
    obtain ⟨r0, r1⟩ := (hZ.set2 (.slice none 0 0) (.slice none 0 0)).c2
    refine bodyPost_ret (v := .tuple #[.agg #[.slice none 0 0, .slice none 0 0], .int .i64 2]) (by simp [results, Tryz.results66, go_sem, r0, r1]) rfl ?_
    rw [HR.out]
    exact ⟨_, rfl, noSt_is _ _, bset2 hb (by omega) _ _⟩
  by_cases c2 : (d.net.trans.length : Int) ≤ t
  · have HR := Lib.hid (fireD_out (d := d) (s := s) (.inr c2))
    obtain ⟨zz0, zz1⟩ := hZ.c2
    have z0 := hZ.frozen 0
    have z1 := hZ.frozen 1
    go_wp2_with fail
    obtain ⟨r0, r1⟩ := (hZ.set2 (.slice none 0 0) (.slice none 0 0)).c2
    refine bodyPost_ret (v := .tuple #[.agg #[.slice none 0 0, .slice none 0 0], .int .i64 2]) (by simp [results, Tryz.results66, go_sem, r0, r1]) rfl ?_
    rw [HR.out]
    exact ⟨_, rfl, noSt_is _ _, bset2 hb (by omega) _ _⟩
  obtain ⟨k, rfl⟩ := Int.eq_ofNat_of_zero_le (show 0 ≤ t by omega)
  have hk : k < d.net.trans.length := by omega
  have HD := Lib.hid (fireD_in (s := s) hk)
  have HF := Lib.hid (firePF_any d.net _ _ s.marks k w1 hn1 hm1)
  rw [HFE.out] at HF
  clear HFE
  go_wp2_with fail
  refine HF.out.mono ?_
  rintro e w2 ⟨mv, rfl, hm, hb2⟩
  clear HF
  obtain ⟨Am2, cm2, rfl, mm1, mm2, hm⟩ := Sl.open_ hm
  have hm : SlI (Fr w1.heap.size w2) w2 (.slice Am2 (fireB d.net s.marks k).1.length cm2) (fireB d.net s.marks k).1 := hm
  have hbw2 := bthen hb hb2
  have hB2 := hB.now hb2
  have hC2 := hC.now hb2
  have hZ2 := hZ.now hb2
  have hd2 := hd1.now hb2
  have hs2 := hs1.now hb2
  have hx2 := hx1.now hb2
  have hw2 := SlWW.now hw1 hb2
  have hv2 := hv1.now hb2
  clear q0 q1 q2 q3 q4 q5 q6 q7 y0 y1 hB hC hZ hd1 hs1 hn1 hx1 hw1 hm1 hv1 hb2 hb
  generalize fireB d.net s.marks k = p at *
  obtain ⟨pm, pc⟩ := p
  dsimp only at *
  obtain ⟨q0, q1, q2, q3, q4, q5, q6, q7⟩ := hB2.c8
  obtain ⟨y0, y1⟩ := hC2.c2
  by_cases h12 : pc = 12
  · subst h12
    have HR : Hid (fireD d s k = (noSt, 12)) := by show _ = _; rw [HD.out, if_pos rfl]
    obtain ⟨zz0, zz1⟩ := hZ2.c2
    have z0 := hZ2.frozen 0
    have z1 := hZ2.frozen 1
    go_wp2_with fail
    obtain ⟨r0, r1⟩ := (hZ2.set2 (.slice none 0 0) (.slice none 0 0)).c2
    refine bodyPost_ret (v := .tuple #[.agg #[.slice none 0 0, .slice none 0 0], .int .i64 12]) (by simp [results, Tryz.results66, go_sem, r0, r1]) rfl ?_
    rw [HR.out]
    exact ⟨_, rfl, noSt_is _ _, bset2 hbw2 (by omega) _ _⟩
  have H12 := Lib.hid h12
  have b12 : (pc == 12) = false := by simpa using h12
  clear h12
  have HHO := Lib.hid (holds_any n d s k _ _ w2 hd2 hs2 HV.out hk hl)
  go_wp2_with fail
  refine HHO.out.mono ?_
  rintro e w3 ⟨rfl, hb3⟩
  clear HHO
  have hbw3 := bthen hbw2 hb3
  have hszw3 := hbw3.size
  have hB3 := hB2.now hb3
  have hC3 := hC2.now hb3
  have hZ3 := hZ2.now hb3
  have hx3 := hx2.now hb3
  have hw3 := SlWW.now hw2 hb3
  have hv3 := hv2.now hb3
  have hm3 := hm.nowF hb3
  clear q0 q1 q2 q3 q4 q5 q6 q7 y0 y1 hB2 hC2 hZ2 hd2 hs2 hx2 hw2 hm hv2 hb3
  generalize hgq : guardB d.vars s.vals ((d.guards[k]?).getD (.mk 0 noV emptyS [])) = gq at *
  have HGQ := Lib.hid hgq
  clear hgq
  obtain ⟨q0, q1, q2, q3, q4, q5, q6, q7⟩ := hB3.c8
  obtain ⟨y0, y1⟩ := hC3.c2
  cases gq
  · have HR : Hid (fireD d s k = (noSt, 21)) := by show _ = _; rw [HD.out, if_neg H12.out]; rfl
    obtain ⟨zz0, zz1⟩ := hZ3.c2
    have z0 := hZ3.frozen 0
    have z1 := hZ3.frozen 1
    go_wp2_with fail
    obtain ⟨r0, r1⟩ := (hZ3.set2 (.slice none 0 0) (.slice none 0 0)).c2
    refine bodyPost_ret (v := .tuple #[.agg #[.slice none 0 0, .slice none 0 0], .int .i64 21]) (by simp [results, Tryz.results66, go_sem, r0, r1]) rfl ?_
    rw [HR.out]
    exact ⟨_, rfl, noSt_is _ _, bset2 hbw3 (by omega) _ _⟩
  have HD2 : Hid (fireD d s k = match wrsV d.vars s.vals ((d.writes[k]?).getD []) s.vals with
    | none => (noSt, 11)
    | some vs => if pc ≠ 0 then (noSt, pc) else (⟨pm, vs⟩, 0)) := by show _ = _; rw [HD.out, if_neg H12.out]; rfl
  clear HD HGQ H12
  have hfit := hv3.fits
  have HFT := Lib.hid hfit
  have HCN := Lib.hid (cloneV _ s.vals w3 hv3 (by have := HVL.out; omega))
  clear hfit
  go_wp2_with fail
  refine HCN.out.mono ?_
  rintro e w4 ⟨cv, rfl, hown, hb4⟩
  clear HCN
  have hcv := hown.sl HFT.out
  obtain ⟨Ac, kc, rfl, kk1, kk2, _⟩ := hcv.open_
  have hbw4 := bthen hbw3 hb4
  have hB4 := hB3.now hb4
  have hkw : k < d.writes.length := by have := HPT.out.2.2.2.1; omega
  obtain ⟨bA, oA, l, lv, rfl, hDA, hlx, hsl, hcellA⟩ := SlWW.at_ hw3 hkw
  obtain ⟨AW, cW, rfl, lw1, lw2, hsl⟩ := Sl.open_ hsl
  have hslw : SlW n (Lt w3.heap.size) w3 (.slice AW l.length cW) l := hsl
  have hcell4 : w4.cell? ⟨bA, oA + k, none⟩ = some (.slice AW l.length cW) := (hb4.cell (p := ⟨bA, _, none⟩) hDA).trans hcellA
  have HWL : Hid (∀ y ∈ l, 0 ≤ y.var ∧ y.var < d.vars.length ∧ typedB d.vars y.x (kindAt d.vars y.var) = true) := by
    have h1 := writes_at HPT.out.2.2.2.2.2 k
    rw [hlx] at h1
    exact wrsB_get l (-1) (by omega) h1
  have HD3 : Hid (fireD d s k = match wrsV d.vars s.vals l s.vals with
    | none => (noSt, 11)
    | some vs => if pc ≠ 0 then (noSt, pc) else (⟨pm, vs⟩, 0)) := by show _ = _; rw [HD2.out, hlx]; rfl
  clear q0 q1 q2 q3 q4 q5 q6 q7 y0 y1 hcellA hlx hsl HD2 hcv hw3 HPT
  obtain ⟨q0, q1, q2, q3, q4, q5, q6, q7⟩ := hB4.c8
  have a1 : (0 : Int) ≤ (k : Int) := by omega
  have a2 : (k : Int) < (d.writes.length : Int) := by omega
  go_wp2_with fail
  clear q0 q1 q2 q3 q4 q5 q6 q7 hcell4
  go_loopw [56] (fun i wr => ∃ (j : Nat) (cur : List Val), j ≤ l.length ∧ i = .int .i64 j ∧ wrsV d.vars s.vals l s.vals = wrsV d.vars s.vals (l.drop j) cur ∧ cur.length = s.vals.length ∧ (∀ v ∈ cur, FitV v) ∧ OwnV wr w3.heap.size (.slice Ac s.vals.length kc) cur ∧ Below w.heap.size w wr ∧ Below w3.heap.size w3 wr) (fun i _ => l.length - (intOf i).toNat)
  case atStart => exact ⟨0, s.vals, Nat.zero_le _, rfl, rfl, rfl, HFT.out, hown, hbw4, hb4⟩
  case round =>
    obtain ⟨j, cur, hj, rfl, hwv, hcl, hcf, hcur, hbr, hbr3⟩ := hrel
    have HWV := Lib.hid hwv
    have HCL := Lib.hid hcl
    have HCF := Lib.hid hcf
    clear hwv hcl hcf hB4 hown hb4 hbw4
    have hB5 := hB3.now hbr3
    have hC5 := hC3.now hbr3
    have hZ5 := hZ3.now hbr3
    have hm5 := hm3.nowF hbr3
    by_cases hlt : j < l.length
    rotate_left
    · obtain rfl : j = l.length := by omega
      have HDE : Hid (wrsV d.vars s.vals l s.vals = some cur) := by show _ = _; rw [HWV.out, List.drop_eq_nil_of_le (Nat.le_refl _)]; rfl
      by_cases hpc : pc = 0
      · subst hpc
        have HR : Hid (fireD d s k = (⟨pm, cur⟩, 0)) := by show _ = _; rw [HD3.out, HDE.out]; rfl
        obtain ⟨zz0, zz1⟩ := hZ5.c2
        have z0 := hZ5.frozen 0
        have z1 := hZ5.frozen 1
        have hsv := hcur.fresh (B := w.heap.size) (by omega) HCF.out
        go_wp2_with fail
        obtain ⟨r0, r1⟩ := (hZ5.set2 (.slice Am2 pm.length cm2) (.slice Ac s.vals.length kc)).c2
        refine bodyPost_ret (v := .tuple #[.agg #[.slice Am2 pm.length cm2, .slice Ac s.vals.length kc], .int .i64 0]) (by simp [results, Tryz.results66, go_sem, r0, r1]) rfl ?_
        rw [HR.out]
        refine ⟨_, rfl, ⟨_, _, rfl, ?_, ?_⟩, bset2 hbr (by omega) _ _⟩
        · exact SlI.set2F (hm5.from_ (by omega)) hZ5 _ _
        · exact SlV.set2F hsv hZ5 _ _
      · have HR : Hid (fireD d s k = (noSt, pc)) := by show _ = _; rw [HD3.out, HDE.out]; exact if_pos hpc
        have bpc : (pc != 0) = true := by simpa using hpc
        clear hpc
        obtain ⟨zz0, zz1⟩ := hZ5.c2
        have z0 := hZ5.frozen 0
        have z1 := hZ5.frozen 1
        go_wp2_with fail
        obtain ⟨r0, r1⟩ := (hZ5.set2 (.slice none 0 0) (.slice none 0 0)).c2
        refine bodyPost_ret (v := .tuple #[.agg #[.slice none 0 0, .slice none 0 0], .int .i64 pc]) (by simp [results, Tryz.results66, go_sem, r0, r1]) rfl ?_
        rw [HR.out]
        exact ⟨_, rfl, noSt_is _ _, bset2 hbr (by omega) _ _⟩
    obtain ⟨b2, o2, ⟨yv, yx⟩, lv2, rfl, hD2, hy, hfv, hex, e0, e1, e2, e3, e4, e5, e6⟩ := (SlW.now hslw hbr3).at_ hlt
    have HX := Lib.hid (wrsV_drop (vs := d.vars) (vals := s.vals) hy cur)
    obtain ⟨yv0, yv1, yty⟩ := HWL.out _ (List.mem_of_getElem? hy)
    clear hy
    dsimp only at HX hfv hex yv0 yv1 yty e0 e1 e2 e3 e4 e5 e6
    obtain ⟨tt, rfl⟩ := Int.eq_ofNat_of_zero_le yv0
    obtain ⟨A3, c3, rfl⟩ := hex.slice_
    have htl : tt < d.vars.length := by omega
    have HEV := Lib.hid (evalE_code yty HASG.out)
    clear yv0 yv1 yty
    have hb6 := bone wr (.cells #[.int .i64 (tt : Int), .int .i64 yx.op, .int .i64 yx.v.kind, .int .i64 yx.v.n, .string yx.v.s, .string yx.s, .slice A3 yx.l.length c3] 124)
    have hY := Blk.new wr 124 #[.int .i64 (tt : Int), .int .i64 yx.op, .int .i64 yx.v.kind, .int .i64 yx.v.n, .string yx.v.s, .string yx.s, .slice A3 yx.l.length c3]
    have hB7 := hB5.now hb6
    have hC7 := hC5.now hb6
    have hZ7 := hZ5.now hb6
    have hex7 := hex.now hb6
    have hx7 := (hx3.now hbr3).now hb6
    have hv7 := (hv3.now hbr3).now hb6
    have hcur7 := hcur.now hb6
    have hbw7 := bthen hbr hb6
    have hb37 : Below w3.heap.size w3 (wr.alloc (.cells #[.int .i64 (tt : Int), .int .i64 yx.op, .int .i64 yx.v.kind, .int .i64 yx.v.n, .string yx.v.s, .string yx.s, .slice A3 yx.l.length c3] 124)) := hbr3.trans (hb6.mono hbr3.size)
    clear hex hB5 hC5 hZ5 hm5 hcur
    have i1 : (0 : Int) ≤ (j : Int) := by omega
    have i2 : (j : Int) < (l.length : Int) := by omega
    go_upto_region 12 with fail
    generalize hw7 : wr.alloc (.cells #[.int .i64 (tt : Int), .int .i64 yx.op, .int .i64 yx.v.kind, .int .i64 yx.v.n, .string yx.v.s, .string yx.s, .slice A3 yx.l.length c3] 124) = w7 at *
    clear hw7 e0 e1 e2 e3 e4 e5 e6 hb6
    obtain ⟨q0, q1, q2, q3, q4, q5, q6, q7⟩ := hB7.c8
    obtain ⟨y0, y1⟩ := hC7.c2
    obtain ⟨p0, p1, p2, p3, p4, p5, p6⟩ := hY.c7
    have HCE := Lib.hid (evalE_any n d.vars s.vals yx w7 _ _ _ hx7 hv7 hex7 hl)
    go_wp2_with fail
    refine HCE.out.mono ?_
    rintro e w8 ⟨rfl, hb8⟩
    clear HCE
    have hbw8 := bthen hbw7 hb8
    have hb38 : Below w3.heap.size w3 w8 := hb37.trans (hb8.mono hb37.size)
    have hB8 := hB7.now hb8
    have hZ8 := hZ7.now hb8
    have hY8 := hY.now hb8
    have hx8 := hx7.now hb8
    have hcur8 := hcur7.now hb8
    clear q0 q1 q2 q3 q4 q5 q6 q7 y0 y1 p0 p1 p2 p3 p4 p5 p6 hB7 hC7 hZ7 hY hx7 hv7 hex7 hcur7 hb8 hb37 hbw7
    rcases HEV.out with ⟨⟨ak, an, az⟩, ha, hp, hva⟩ | ⟨ha, hp⟩
    rotate_left
    · have HR : Hid (fireD d s k = (noSt, 11)) := by show _ = _; rw [HD3.out, HWV.out, HX.out, ha]
      have b6 : ((evalE d.vars s.vals yx).2 != 0) = true := by rw [hp]; rfl
      clear ha hp HEV
      generalize evalE d.vars s.vals yx = p2 at *
      obtain ⟨⟨pk2, pn2, ps2⟩, pc2⟩ := p2
      dsimp only at *
      have hb9 := bone w8 (.cells #[.int .i64 pk2, .int .i64 pn2, .string ps2] 63)
      have hZ9 := hZ8.now hb9
      have hbw9 := bthen hbw8 hb9
      go_upto_region 13 with fail
      generalize w8.alloc (.cells #[.int .i64 pk2, .int .i64 pn2, .string ps2] 63) = w9 at *
      obtain ⟨zz0, zz1⟩ := hZ9.c2
      have z0 := hZ9.frozen 0
      have z1 := hZ9.frozen 1
      go_wp2_with fail
      obtain ⟨r0, r1⟩ := (hZ9.set2 (.slice none 0 0) (.slice none 0 0)).c2
      refine bodyPost_ret (v := .tuple #[.agg #[.slice none 0 0, .slice none 0 0], .int .i64 11]) (by simp [results, Tryz.results66, go_sem, r0, r1]) rfl ?_
      rw [HR.out]
      exact ⟨_, rfl, noSt_is _ _, bset2 hbw9 (by omega) _ _⟩
    have HA := Lib.hid ha
    have HVA := Lib.hid hva
    rw [hp]
    clear ha hp hva HEV
    dsimp only
    have hb9 := bone w8 (.cells #[.int .i64 ak, .int .i64 an, .string az] 63)
    have hVx := Blk.new w8 63 #[.int .i64 ak, .int .i64 an, .string az]
    have hB9 := hB8.now hb9
    have hZ9 := hZ8.now hb9
    have hY9 := hY8.now hb9
    have hx9 := hx8.now hb9
    have hcur9 := hcur8.now hb9
    have hbw9 := bthen hbw8 hb9
    have hb39 : Below w3.heap.size w3 (w8.alloc (.cells #[.int .i64 ak, .int .i64 an, .string az] 63)) := hb38.trans (hb9.mono hb38.size)
    clear hB8 hZ8 hY8 hx8 hcur8 hb38 hbw8
    go_upto_region 15 with fail
    generalize hw9 : w8.alloc (.cells #[.int .i64 ak, .int .i64 an, .string az] 63) = w9 at *
    clear hw9 hb9
    obtain ⟨b4, o4, xv, iv4, rfl, hD4, hxv, hvar, _, k0, k1, k2, k3, k4⟩ := hx9.at_ htl
    have HPL := Lib.hid (placeW_at hxv ⟨ak, an, az⟩)
    have HIN := Lib.hid (inE_ok (vars_at HVB.out (List.mem_of_getElem? hxv)) HVA.out)
    clear hxv
    have HCI : Hid (∀ W, Below w9.heap.size w9 W → Calls Tryz.prog 108 #[.agg #[.string xv.name, .int .i64 xv.kind, .int .i64 xv.low, .int .i64 xv.high, iv4], .agg #[.int .i64 ak, .int .i64 an, .string az]] W fun e w' => e = .returned (.tuple #[.bool (decide (0 ≤ placeV xv ⟨ak, an, az⟩)), .int .i64 0]) ∧ Below w9.heap.size w9 w') := fun W hW => by
      refine (inE_any xv ⟨ak, an, az⟩ _ W (hvar.now hW) (fit_valid HVA.out)).mono ?_
      rintro e w' ⟨he, hb⟩
      exact ⟨by rw [he, HIN.out], bthen hW hb⟩
    have HS : Hid (∀ W, Below w9.heap.size w9 W → W.cell? ⟨w.heap.size, 4, none⟩ = some (.slice (some ⟨b4, o4, none⟩) d.vars.length cx) ∧ W.cell? ⟨wr.heap.size, 0, none⟩ = some (.int .i64 tt) ∧ W.cell? ⟨b4, o4 + tt * 5, none⟩ = some (.string xv.name) ∧ W.cell? ⟨b4, o4 + tt * 5 + 1, none⟩ = some (.int .i64 xv.kind) ∧ W.cell? ⟨b4, o4 + tt * 5 + 2, none⟩ = some (.int .i64 xv.low) ∧ W.cell? ⟨b4, o4 + tt * 5 + 3, none⟩ = some (.int .i64 xv.high) ∧ W.cell? ⟨b4, o4 + tt * 5 + 4, none⟩ = some iv4 ∧ W.cell? ⟨w8.heap.size, 0, none⟩ = some (.int .i64 ak) ∧ W.cell? ⟨w8.heap.size, 1, none⟩ = some (.int .i64 an) ∧ W.cell? ⟨w8.heap.size, 2, none⟩ = some (.string az)) := fun W hW => ⟨(hB9.now hW).c8.2.2.2.2.1, (hY9.now hW).c7.1, (hW.cell (p := ⟨b4, _, none⟩) hD4).trans k0, (hW.cell (p := ⟨b4, _, none⟩) hD4).trans k1, (hW.cell (p := ⟨b4, _, none⟩) hD4).trans k2, (hW.cell (p := ⟨b4, _, none⟩) hD4).trans k3, (hW.cell (p := ⟨b4, _, none⟩) hD4).trans k4, (hVx.now hW).c3⟩
    have hbd : Below w9.heap.size w9 w9.drew := (Below.refl _ _).drew
    clear k0 k1 k2 k3 k4 hvar HIN
    generalize hpl : decide (0 ≤ placeV xv ⟨ak, an, az⟩) = pl at *
    have HPP := Lib.hid hpl
    clear hpl
    have j1 : (0 : Int) ≤ (tt : Int) := by omega
    have j2 : (tt : Int) < (d.vars.length : Int) := by omega
    obtain ⟨a0, a3, d0, d1, d2, d3, d4, d5, d6, d7⟩ := HS.out _ hbd
    go_region_held3 (fun W => W.cell? ⟨w.heap.size, 4, none⟩ = some (.slice (some ⟨b4, o4, none⟩) d.vars.length cx) ∧ W.cell? ⟨wr.heap.size, 0, none⟩ = some (.int .i64 tt) ∧ W.cell? ⟨b4, o4 + tt * 5, none⟩ = some (.string xv.name) ∧ W.cell? ⟨b4, o4 + tt * 5 + 1, none⟩ = some (.int .i64 xv.kind) ∧ W.cell? ⟨b4, o4 + tt * 5 + 2, none⟩ = some (.int .i64 xv.low) ∧ W.cell? ⟨b4, o4 + tt * 5 + 3, none⟩ = some (.int .i64 xv.high) ∧ W.cell? ⟨b4, o4 + tt * 5 + 4, none⟩ = some iv4 ∧ W.cell? ⟨w8.heap.size, 0, none⟩ = some (.int .i64 ak) ∧ W.cell? ⟨w8.heap.size, 1, none⟩ = some (.int .i64 an) ∧ W.cell? ⟨w8.heap.size, 2, none⟩ = some (.string az)) (exact HS.out _ (by assumption))
      (first | (go_at_call 108; (with_reducible refine (HCI.out _ (by assumption)).mono ?_); rintro e w10 ⟨rfl, hb10⟩))
    clear a0 a3 d0 d1 d2 d3 d4 d5 d6 d7 HS HCI
    have hbw10 := bthen hbw9 hb10
    have hb310 : Below w3.heap.size w3 w10 := hb39.trans (hb10.mono hb39.size)
    have hZ10 := hZ9.now hb10
    have hY10 := hY9.now hb10
    have hVx10 := hVx.now hb10
    have hcur10 := hcur9.now hb10
    clear hB9 hZ9 hY9 hVx hx9 hcur9 hbw9 hb39 hb10
    cases pl
    · have HR : Hid (fireD d s k = (noSt, 11)) := by show _ = _; rw [HD3.out, HWV.out, HX.out, HA.out]; dsimp only; rw [HPL.out, if_neg (of_decide_eq_false HPP.out)]
      obtain ⟨zz0, zz1⟩ := hZ10.c2
      have z0 := hZ10.frozen 0
      have z1 := hZ10.frozen 1
      go_wp2_with fail
      obtain ⟨r0, r1⟩ := (hZ10.set2 (.slice none 0 0) (.slice none 0 0)).c2
      refine bodyPost_ret (v := .tuple #[.agg #[.slice none 0 0, .slice none 0 0], .int .i64 11]) (by simp [results, Tryz.results66, go_sem, r0, r1]) rfl ?_
      rw [HR.out]
      exact ⟨_, rfl, noSt_is _ _, bset2 hbw10 (by omega) _ _⟩
    have HN : Hid (wrsV d.vars s.vals l s.vals = wrsV d.vars s.vals (l.drop (j + 1)) (cur.set tt ⟨ak, an, az⟩)) := by show _ = _; rw [HWV.out, HX.out, HA.out]; dsimp only; rw [HPL.out, if_pos (of_decide_eq_true HPP.out), Int.toNat_natCast]
    have htc : tt < s.vals.length := by have := HVL.out; omega
    obtain ⟨g, rfl, hgk, hgb, hgl⟩ := hcur10.at_slot HCL.out (by omega)
    rw [← HCL.out] at hcur10
    obtain ⟨cx', f0, f1, f2, z0, z1, z2⟩ := OwnV.cells hcur10 (k := tt) (by have := HCL.out; omega)
    obtain ⟨p0, _⟩ := hY10.c7
    obtain ⟨u0, u1, u2⟩ := hVx10.c3
    have j3 : (tt : Int) < (s.vals.length : Int) := by omega
    go_wp2_with fail
    go_roundw
    case rel =>
      refine ⟨j + 1, cur.set tt ⟨ak, an, az⟩, by omega, by go_num, HN.out, by rw [List.length_set]; exact HCL.out, fits_set HCF.out tt (fit_valid HVA.out), ?_, (bput3 hbw10 (by omega) _ _ _ _ _ _), bput3 hb310 hgb _ _ _ _ _ _⟩
      have := OwnV.set_ hcur10 (k := tt) (by have := HCL.out; omega) ⟨ak, an, az⟩
      rw [HCL.out] at this
      exact this
    case measure => simp [intOf]; omega
end Go.Proofs.YtlmenhjlgmejkaaGreatDoor
