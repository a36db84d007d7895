/- Texts of this seat, merged. -/
import Derived.Test.YtoalecalahkblaaGreatDoorIl01
import Derived.Test.YtoalecalahkblaaGreatDoorIl02
import Derived.Test.YtoalecalahkblaaGreatDoorIl03
import Derived.Test.YtoalecalahkblaaGreatDoorIl04
import Derived.Test.YtoalecalahkblaaGreatDoorIl06
import Derived.Test.YtoalecalahkblaaGreatDoorIl07
import Derived.Test.YtoalecalahkblaaGreatDoorIl08
import Derived.Test.YtoalecalahkblaaGreatDoorIl09
set_option linter.all false
set_option linter.all false
namespace Go.Proofs.YtoalecalahkblaaGreatDoor
open Go.RowKit
theorem Sl.drop1 {α : Type} {R : ElemR α} {D : Nat → Prop} {w : World} {b o n c : Nat} {x : α} {xs : List α} (h : Sl 1 R D w (.slice (some ⟨b, o, none⟩) n c) (x :: xs)) (hn : n = xs.length + 1) (hc : n ≤ c) (hcm : c ≤ 9223372036854775807) : Sl 1 R D w (.slice (some ⟨b, o + 1, none⟩) (n - 1) (c - 1)) xs := by
  refine ⟨some ⟨b, o + 1, none⟩, c - 1, by rw [hn]; rfl, by omega, by unfold maxLen; omega, fun i y hy => ?_⟩
  have hi := (List.getElem?_eq_some_iff.1 hy).1
  obtain ⟨b', o', x', u, hA, hD, hx, hr, hcell⟩ := Sl.at1 h (k := i + 1) (by omega)
  injection hA with hA
  injection hA with e1 e2 _
  subst e1 e2
  have hx : xs[i]? = some x' := hx
  rw [hy] at hx
  injection hx with hx
  subst hx
  refine ⟨b, o + 1, [u], rfl, hD, rfl, hr, fun j v hv => ?_⟩
  match j, hv with
  | 0, hv =>
    injection hv with hv
    subst hv
    rw [show o + 1 + i * 1 + 0 = o + (i + 1) by omega]
    exact hcell
  | j + 1, hv => simp at hv
theorem isName_le {s : ByteArray} (h : isNameB s = true) : s.size ≤ 40 := by
  unfold isNameB at h
  simp only [Bool.and_eq_true, decide_eq_true_eq] at h
  exact h.1.1.2
structure GoodR (r : List Bt) (e : Ev) : Prop where
  ex : ∃ a b t n, r[0]? = some a ∧ r[1]? = some b ∧ r[2]? = some t ∧ isNameB (bsOf a) = true ∧ isNameB (bsOf b) = true ∧ natE t = (n, 0) ∧ t.length ≤ 1000000 ∧ e = ⟨bsOf a, bsOf b, ⟨#[]⟩, 5, n, []⟩
def m3 : Mp := ⟨0, 1, -1, -1, 2, [], [], 44⟩
theorem mapB_m3 : mapB m3 = true := by decide
theorem fields_m3 : fieldsB m3 = [0, 1, 2] := by decide
def RetLog (L : List Ev) (w : World) (e : Ending) (w' : World) : Prop := ∃ u, e = .returned (.tuple #[u, .agg #[.int .i64 0, .int .i64 0], .int .i64 0]) ∧ IsLog (Lt w'.heap.size) w' u L ∧ Below w.heap.size w w'
theorem isMp_m3 (w : World) : IsMp (Lt w.heap.size) w (.agg #[.int .i64 0, .int .i64 1, .int .i64 (-1), .int .i64 (-1), .int .i64 2, .slice none 0 0, .slice none 0 0, .int .u8 44]) m3 :=
  ⟨.slice none 0 0, .slice none 0 0, rfl, ⟨by unfold Fit m3; simp, by unfold Fit m3; simp, by unfold Fit m3; simp, by unfold Fit m3; simp, by unfold Fit m3; simp⟩, Sl.none_, Sl.none_⟩
theorem OwnE0.chg {R base : Nat} {w w' : World} {v : Value} {l : List Ev} (h : OwnE0 w base v l) (k : Chg (One R) w w') (hR : R < base) : OwnE0 w' base v l := by
  refine World.ownsRow.kept h k.grown ?_
  cases e : v.ownBlock with
  | none => exact .inl rfl
  | some g => exact .inr (fun h' => by injection h' with h'; have := (World.ownsRow.lt h g e).1; omega)
theorem OwnE0.open_ {base : Nat} {w : World} {v : Value} {l : List Ev} (h : OwnE0 w base v l) : ∃ A c, v = .slice A l.length c := by
  rcases h.2 with ⟨rfl, h0⟩ | ⟨g, cap, cur, rfl, _⟩
  · exact ⟨none, 0, by rw [h0]⟩
  · exact ⟨_, _, rfl⟩
theorem appEvs : AppInfo Tryz.prog 36 69 6 := AppInfo.mk' (z := .agg #[.string ⟨#[]⟩, .string ⟨#[]⟩, .string ⟨#[]⟩, .int .i64 0, .int .i64 0, .slice none 0 0]) (bytes := 88) Tryz.underlying36 (by kernel_rfl) (by decide) rfl (by decide)
def evF (u rv hv mv ev : Value) (rb ro T : Nat) (cs : Array Value) : Nat → (Nat → Value) → World → Prop
  | 0, τ, _ => τ 0 = u
  | 1, τ, _ => τ 1 = rv
  | 2, τ, _ => τ 2 = .pointer (some ⟨rb, ro, none⟩)
  | 3, τ, _ => τ 3 = hv
  | 4, τ, _ => τ 4 = mv
  | 5, τ, _ => τ 5 = .tuple #[ev, .int .i64 0, .int .i64 0]
  | 6, τ, _ => τ 6 = .tuple #[ev, .int .i64 0, .int .i64 0]
  | 7, τ, _ => τ 7 = ev
  | 8, τ, _ => τ 8 = .int .i64 0
  | 9, τ, _ => τ 9 = .int .i64 0
  | 10, τ, W => ∃ p : Nat, τ 10 = .pointer (some ⟨p, 0, none⟩) ∧ ∃ a b c d e f, Blk W p T #[a, b, c, d, e, f]
  | 11, τ, W => ∃ p : Nat, τ 10 = .pointer (some ⟨p, 0, none⟩) ∧ Blk W p T cs
  | 12, τ, _ => τ 12 = .int .i64 0
  | 13, τ, _ => τ 13 = .int .i64 0
  | _, _, _ => True
theorem evKeep {u rv hv mv ev : Value} {rb ro T : Nat} {cs : Array Value} {listed : Array Bool} {i : Nat} {τ τ' : Nat → Value} {W W' : World} (hup : Up listed 11 → Up listed 10) (hi : ¬ Up listed i) (ht : ∀ j, j < 14 → j ≠ i → τ' j = τ j) (hb : Below W.heap.size W W')
    (hf : ∀ j, j < 14 → Up listed j → evF u rv hv mv ev rb ro T cs j τ W) : ∀ j, j < 14 → j ≠ i → Up listed j → evF u rv hv mv ev rb ro T cs j τ' W' := by
  intro j hj hji hu
  match j, hj with
  | 0, _ =>
    exact (ht 0 (by decide) hji).trans (hf 0 (by decide) hu)
  | 1, _ =>
    exact (ht 1 (by decide) hji).trans (hf 1 (by decide) hu)
  | 2, _ =>
    exact (ht 2 (by decide) hji).trans (hf 2 (by decide) hu)
  | 3, _ =>
    exact (ht 3 (by decide) hji).trans (hf 3 (by decide) hu)
  | 4, _ =>
    exact (ht 4 (by decide) hji).trans (hf 4 (by decide) hu)
  | 5, _ =>
    exact (ht 5 (by decide) hji).trans (hf 5 (by decide) hu)
  | 6, _ =>
    exact (ht 6 (by decide) hji).trans (hf 6 (by decide) hu)
  | 7, _ =>
    exact (ht 7 (by decide) hji).trans (hf 7 (by decide) hu)
  | 8, _ =>
    exact (ht 8 (by decide) hji).trans (hf 8 (by decide) hu)
  | 9, _ =>
    exact (ht 9 (by decide) hji).trans (hf 9 (by decide) hu)
  | 10, _ =>
    obtain ⟨p, e, a, b, c, d, x, f, h⟩ := hf 10 (by decide) hu
    exact ⟨p, (ht 10 (by decide) hji).trans e, a, b, c, d, x, f, h.now hb⟩
  | 11, _ =>
    obtain ⟨p, e, h⟩ := hf 11 (by decide) hu
    exact ⟨p, (ht 10 (by decide) (fun e => hi (e ▸ hup hu))).trans e, h.now hb⟩
  | 12, _ =>
    exact (ht 12 (by decide) hji).trans (hf 12 (by decide) hu)
  | 13, _ =>
    exact (ht 13 (by decide) hji).trans (hf 13 (by decide) hu)
def mk10 (i : Nat) : Bool := i == 10
theorem alEv (W : World) : (Instr.alloc 69 true (.tuple #[])).run Tryz.prog W = .ok (.pointer (some ⟨W.heap.size, 0, none⟩)) (W.alloc (.cells #[.string ⟨#[]⟩, .string ⟨#[]⟩, .string ⟨#[]⟩, .int .i64 0, .int .i64 0, .slice none 0 0] 69)) := by kernel_rfl
theorem wpM_moveE {P : Program} {o : Oper} {a : Act} {w : World} {K : Act → World → Prop} {Q : Exit → Act → World → Prop} (x : Operand) (V : Value) (ho : o.op = .move x) (hv : a.eval x = V) (h : K (a.put o.dst V) w) : o.wp P a w K Q := by
  unfold Oper.wp execOp
  simp only [ho, hv]
  exact h
theorem wpM_callEv {o : Oper} {a : Act} {w : World} {K : Act → World → Prop} {Q : Exit → Act → World → Prop} (x : Operand) (args : Array Operand) (vals : Array Value) (ts : Array TypeId) (ho : o.op = .call { callee := .value x, args := args, argTypes := ts }) (hx : a.eval x = .func (.func 54) #[] #[]) (hv : args.map a.eval = vals)
    (h : Calls Tryz.prog 54 vals w fun e w' => ∃ v, e = .returned v ∧ K (a.put o.dst v) w') : o.wp Tryz.prog a w K Q := by
  unfold Oper.wp execOp
  simp only [ho]
  generalize a.eval = ρ at hx hv ⊢
  simp [hx, hv, go_sem]
  refine h.mono ?_
  rintro e w' ⟨v, rfl, hK⟩
  exact hK
set_option maxHeartbeats 8000000 in
set_option maxRecDepth 100000 in
theorem import_few (s : ByteArray) (hd : List Bt) (rs : List (List Bt)) (L : List Ev) (w : World) (hsz : s.size ≤ 9223372036854775807) (hc : cellsE 44 s.data.toList = (hd :: rs, (0, 0), 0)) (hh : hd.length = 3) (hl : rs.length = L.length) (hrl : ∀ r ∈ rs, r.length = 3) (hg : ∀ (i : Nat) r e, rs[i]? = some r → L[i]? = some e → GoodR r e) (h0 : 0 < L.length) (h20 : L.length < 20) (ha : AmbP w) :
    Calls Tryz.prog 16 #[.string s, .agg #[.int .i64 0, .int .i64 1, .int .i64 (-1), .int .i64 (-1), .int .i64 2, .slice none 0 0, .slice none 0 0, .int .u8 44]] w (RetLog (sortS tlt L) w) := by
  have HMP := Lib.hid isMp_m3
  have HV : Hid (∀ W, Calls Tryz.prog 18 #[.agg #[.int .i64 0, .int .i64 1, .int .i64 (-1), .int .i64 (-1), .int .i64 2, .slice none 0 0, .slice none 0 0, .int .u8 44]] W fun e w' => e = .returned (.bool true) ∧ Below W.heap.size W w') := fun W => by have := valid_any _ m3 W (isMp_m3 W) (Nat.zero_le _); rwa [mapB_m3] at this
  have HC : Hid (∀ W, Calls Tryz.prog 22 #[.string s, .int .u8 44] W (RetRows (hd :: rs, (0, 0), 0) W)) := fun W => by have := cells_any s 44 W hsz; rwa [hc] at this
  have HHD := Lib.hid hh
  have HL := Lib.hid hl
  have HRL := Lib.hid hrl
  have HG := Lib.hid hg
  have HAM := Lib.hid ha
  clear hc hh hl hrl hg ha
  -- the boxes
  have hb1 := bone w (.cells #[.int .i64 0, .int .i64 1, .int .i64 (-1), .int .i64 (-1), .int .i64 2, .slice none 0 0, .slice none 0 0, .int .u8 44] 33)
  have hB1 := Blk.new w 33 #[.int .i64 0, .int .i64 1, .int .i64 (-1), .int .i64 (-1), .int .i64 2, .slice none 0 0, .slice none 0 0, .int .u8 44]
  have hs1 : (w.alloc (.cells #[.int .i64 0, .int .i64 1, .int .i64 (-1), .int .i64 (-1), .int .i64 2, .slice none 0 0, .slice none 0 0, .int .u8 44] 33)).heap.size = w.heap.size + 1 := by simp
  obtain ⟨w1, hw1⟩ : ∃ w1, w.alloc (.cells #[.int .i64 0, .int .i64 1, .int .i64 (-1), .int .i64 (-1), .int .i64 2, .slice none 0 0, .slice none 0 0, .int .u8 44] 33) = w1 := ⟨_, rfl⟩
  rw [hw1] at hb1 hB1 hs1
  have hb2 := bone w1 (.cells #[.slice none 0 0] 38)
  have hB2 := Blk.new w1 38 #[.slice none 0 0]
  have hs2 : (w1.alloc (.cells #[.slice none 0 0] 38)).heap.size = w.heap.size + 1 + 1 := by simp [hs1]
  rw [hs1] at hB2
  obtain ⟨w2, hw2⟩ : ∃ w2, w1.alloc (.cells #[.slice none 0 0] 38) = w2 := ⟨_, rfl⟩
  rw [hw2] at hb2 hB2 hs2
  have hb3 := bone w2 (.cells #[.int .i64 0, .int .i64 0] 40)
  have hB3 := Blk.new w2 40 #[.int .i64 0, .int .i64 0]
  have hs3 : (w2.alloc (.cells #[.int .i64 0, .int .i64 0] 40)).heap.size = w.heap.size + 1 + 1 + 1 := by simp [hs2]
  rw [hs2] at hB3
  obtain ⟨w3, hw3⟩ : ∃ w3, w2.alloc (.cells #[.int .i64 0, .int .i64 0] 40) = w3 := ⟨_, rfl⟩
  rw [hw3] at hB3 hs3 hb3
  have HW : Hid (((w.alloc (.cells #[.int .i64 0, .int .i64 1, .int .i64 (-1), .int .i64 (-1), .int .i64 2, .slice none 0 0, .slice none 0 0, .int .u8 44] 33)).alloc (.cells #[.slice none 0 0] 38)).alloc (.cells #[.int .i64 0, .int .i64 0] 40) = w3) := by show _ = _; rw [hw1, hw2, hw3]
  have HB3 := Lib.hid (bthen (bthen hb1 hb2) hb3)
  have HM3 := Lib.hid ((hB1.now hb2).now hb3)
  have HO3 := Lib.hid (hB2.now hb3)
  have HP3 := Lib.hid hB3
  have HS3 := Lib.hid hs3
  clear hb1 hB1 hs1 hw1 hb2 hB2 hs2 hw2 hb3 hB3 hs3 hw3
  go_enter Tryz.func16, Tryz.ntmps16
  go_upto_region 1 with fail
  rw [HW.out]
  clear HW
  obtain ⟨c0, c1, c2, c3, c4, c5, c6, c7⟩ := HM3.out.c8m
  go_wp2_with fail
  (with_reducible refine (HV.out _).mono ?_)
  rintro _ w4 ⟨rfl, hb4⟩
  have HB4 := Lib.hid (bthen HB3.out hb4)
  have HM4 := Lib.hid (HM3.out.now hb4)
  have HO4 := Lib.hid (HO3.out.now hb4)
  have HP4 := Lib.hid (HP3.out.now hb4)
  clear c0 c1 c2 c3 c4 c5 c6 c7 hb4 HB3 HM3 HO3 HP3 HV
  obtain ⟨c0, c1, c2, c3, c4, c5, c6, c7⟩ := HM4.out.c8m
  go_wp2_with fail
  (with_reducible refine (HC.out _).mono ?_)
  rintro _ w5 ⟨rv, rfl, hsr, hb5⟩
  obtain ⟨Ar, rcap, rfl, hrc1, hrc2, hsr⟩ := hsr.open_
  obtain ⟨rb, ro, hrow, hv, hA, hrD, hrx, hhv, hrcell⟩ := SlSS.at_ hsr (k := 0) (by simp)
  subst hA
  have hrx : some hd = some hrow := hrx
  injection hrx with hrx
  subst hrx
  have HSR := Lib.hid hsr
  have HB5 := Lib.hid (bthen HB4.out hb5)
  have HM5 := Lib.hid (HM4.out.now hb5)
  have HO5 := Lib.hid (HO4.out.now hb5)
  have HP5 := Lib.hid (HP4.out.now hb5)
  have HHV := Lib.hid hhv
  have HRC := Lib.hid (And.intro hrD hrcell)
  have HRB := Lib.hid (And.intro hrc1 hrc2)
  clear c0 c1 c2 c3 c4 c5 c6 c7 hb5 hrD hrcell hhv hsr HB4 HM4 HO4 HP4 HC hrc1 hrc2
  rw [List.length_cons] at HSR HRB ⊢
  have e0 : (((rs.length : Int) + 1) == 0) = false := beq_false_of_ne (by omega)
  go_upto_region 8 with fail
  have HB6 := Lib.hid (bone w5 (.cells #[.int .i64 0, .int .i64 0] 40))
  obtain ⟨w6, hw6⟩ : ∃ w6, w5.alloc (.cells #[.int .i64 0, .int .i64 0] 40) = w6 := ⟨_, rfl⟩
  rw [hw6] at HB6 ⊢
  have HM6 := Lib.hid (HM5.out.now HB6.out)
  have HO6 := Lib.hid (HO5.out.now HB6.out)
  have HP6 := Lib.hid (HP5.out.now HB6.out)
  have HBW6 := Lib.hid (bthen HB5.out HB6.out)
  have HSR6 := Lib.hid (HSR.out.now HB6.out)
  have HHV6 := Lib.hid (HHV.out.now HB6.out)
  have HRC6 : Hid (rb < w6.heap.size ∧ w6.cell? ⟨rb, ro + 0, none⟩ = some hv) := ⟨Nat.lt_of_lt_of_le HRC.out.1 HB6.out.size, (HB6.out.cell (p := ⟨rb, ro + 0, none⟩) HRC.out.1).trans HRC.out.2⟩
  have HHF : Hid (∀ W, Below w6.heap.size w6 W → Calls Tryz.prog 53 #[hv, .agg #[.int .i64 0, .int .i64 1, .int .i64 (-1), .int .i64 (-1), .int .i64 2, .slice none 0 0, .slice none 0 0, .int .u8 44]] W fun e w' => e = .returned (.tuple #[.agg #[.int .i64 0, .int .i64 0], .int .i64 0]) ∧ Below W.heap.size W w') := Lib.hid fun W hW =>
    header_none hd hv _ m3 W (HHV6.out.now hW) (isMp_m3 W) rfl (fun k hk => by
      rw [fields_m3] at hk
      have := HHD.out
      simp only [List.mem_cons, List.not_mem_nil, or_false] at hk
      rcases hk with rfl | rfl | rfl <;> omega)
  obtain ⟨Ah, hcp, hvv, _, _, _⟩ := HHV6.out.open_
  subst hvv
  clear hw6 HM5 HO5 HP5 HB5 HSR HHV HRC HB6
  go_cut [10, 11] from 41 to 48 (fun pv cv W => (∃ T : Nat, pv = .pointer (some ⟨T, 0, none⟩)) ∧ cv = .int .i64 0 ∧ Below w6.heap.size w6 W)
  case first =>
    obtain ⟨c0, c1, c2, c3, c4, c5, c6, c7⟩ := HM6.out.c8m
    have x0 := HRC6.out.2
    rw [Nat.add_zero] at x0
    have hz := bone w6 (.cells #[.int .i64 0, .int .i64 0] 40)
    obtain ⟨d0, d1, d2, d3, d4, d5, d6, d7⟩ := (HM6.out.now hz).c8m
    have y0 := (hz.cell (p := ⟨rb, ro, none⟩) HRC6.out.1).trans x0
    have hTz := Blk.new w6 40 #[.int .i64 0, .int .i64 0]
    have hd0 : Below w6.heap.size w6 w6.drew := (Below.refl _ _).drew
    have hd1 := hz.drew
    have i0 : (0 : Int) < ((rs.length + 1 : Nat) : Int) := by omega
    go_region_with (first | (go_at_call 53; (with_reducible refine (HHF.out _ ?_).mono ?_); (first | exact hd0 | exact hd1); rintro e w7 ⟨rfl, hb7⟩; (first | (have hT5 := (show Blk ((w6.alloc (.cells #[.int .i64 0, .int .i64 0] 40)).drew) w6.heap.size 40 #[.int .i64 0, .int .i64 0] from hTz).now hb7; obtain ⟨z0, z1⟩ := hT5.c2; have f0 := hT5.frozen 0; have f1 := hT5.frozen 1) | skip)))
    all_goals
      (try simp only [Act.put, List.getElem_toArray, List.getElem_cons_succ, List.getElem_cons_zero, List.setIfInBounds_toArray, List.set_cons_succ, List.set_cons_zero])
      go_wp2_with fail
      go_meet
      first
        | exact ⟨⟨_, rfl⟩, rfl, (hd0.trans (hb7.mono hd0.size)).trans ((bone w7 _).mono (hd0.trans (hb7.mono hd0.size)).size)⟩
        | exact ⟨⟨_, rfl⟩, rfl, ((hd1.trans (hb7.mono hd1.size)).setCell (p := ⟨w6.heap.size, 0, none⟩) (Nat.le_refl _) _).setCell (p := ⟨w6.heap.size, 1, none⟩) (Nat.le_refl _) _⟩
  case rest =>
    obtain ⟨⟨T7, rfl⟩, rfl, hb7⟩ := hcut
    have HB7 := Lib.hid (HBW6.out.trans (hb7.mono HBW6.out.size))
    have HM7 := Lib.hid (HM6.out.now hb7)
    have HO7 := Lib.hid (HO6.out.now hb7)
    have HP7 := Lib.hid (HP6.out.now hb7)
    have HSR7 := Lib.hid (HSR6.out.now hb7)
    have HHV7 := Lib.hid (HHV6.out.now hb7)
    have HRC7 := Lib.hid (And.intro (Nat.lt_of_lt_of_le HRC6.out.1 hb7.size) ((hb7.cell (p := ⟨rb, ro + 0, none⟩) HRC6.out.1).trans HRC6.out.2))
    obtain ⟨w7, hw7⟩ : ∃ w7, wc = w7 := ⟨_, rfl⟩
    rw [hw7] at HB7 HM7 HO7 HP7 HSR7 HHV7 HRC7 ⊢
    clear hw7 hb7 HM6 HO6 HP6 HSR6 HHV6 HRC6 HBW6 HHF
    go_upto_region 12 with fail
    have HG8 := Lib.hid (Blk.new w7 38 #[.slice none 0 0])
    have HB8a := Lib.hid (bone w7 (.cells #[.slice none 0 0] 38))
    obtain ⟨w8, hw8⟩ : ∃ w8, w7.alloc (.cells #[.slice none 0 0] 38) = w8 := ⟨_, rfl⟩
    have hs8 : w8.heap.size = w7.heap.size + 1 := by rw [← hw8]; simp
    rw [hw8] at HG8 HB8a ⊢
    have HB8 := Lib.hid (bthen HB7.out HB8a.out)
    have HM8 := Lib.hid (HM7.out.now HB8a.out)
    have HO8 := Lib.hid (HO7.out.now HB8a.out)
    have HP8 := Lib.hid (HP7.out.now HB8a.out)
    have HSR8 : Hid (Sl 1 RStrs (Lt w7.heap.size) w8 (.slice (some ⟨rb, ro, none⟩) (rs.length + 1) rcap) (hd :: rs)) := Sl.keep HSR7.out RStrs.kept (fun _ => id) (Same.of_below HB8a.out)
    have HHV8 : Hid (SlP (Lt w7.heap.size) w8 (.slice Ah hd.length hcp) hd) := SlP.keep HHV7.out (fun _ => id) (Same.of_below HB8a.out)
    have HRC8 := Lib.hid (And.intro HRC7.out.1 ((HB8a.out.cell (p := ⟨rb, ro + 0, none⟩) HRC7.out.1).trans HRC7.out.2))
    obtain ⟨G, hGe⟩ : ∃ G, w7.heap.size = G := ⟨_, rfl⟩
    rw [hGe] at HG8 hs8 HSR8 HHV8 HRC8 ⊢
    have HGW : Hid (w.heap.size + 1 + 1 < G) := by show _ < _; have := HP7.out.lt; omega
    have HS8 := Lib.hid hs8
    clear hw8 hGe hs8 HB8a HM7 HO7 HP7 HSR7 HHV7 HRC7 HB7
    have HLP := Lib.hid HL.out
    go_cut [55, 56, 57] from 54 to 57 (fun sv nv iv W => (∃ A c, sv = .slice A rs.length c ∧ SlSS (Lt G) w8 (.slice A rs.length c) rs) ∧ nv = .int .i64 (rs.length : Int) ∧ iv = .int .i64 0 ∧ w8 = W)
    case first =>
      have hd1 := Sl.drop1 HSR8.out rfl HRB.out.1 HRB.out.2
      have i0 : (1 : Int) ≤ (rcap : Int) := by have := HRB.out.1; omega
      have i1 : (1 : Int) ≤ ((rs.length + 1 : Nat) : Int) := by omega
      have i2 : (1 : Int) < (rcap : Int) := by have := HRB.out.1; have := HL.out; omega
      have i3 : 1 < rcap := by omega
      have i4 : (0 : Int) < (rcap : Int) - 1 := by omega
      have hl1 : rs.length + 1 - 1 = rs.length := by omega
      rw [hl1] at hd1
      have HD1 := Lib.hid hd1
      clear hd1
      go_wp2_with fail
      go_meet
      exact ⟨⟨_, _, rfl, HD1.out⟩, rfl, rfl, rfl⟩
    case rest =>
      obtain ⟨⟨A, c, rfl, hs1⟩, rfl, rfl, rfl⟩ := hcut
      have HRS := Lib.hid hs1
      clear hs1 HSR8
      have hrl20 : rs.length < 20 := by have := HL.out; omega
      go_wp2_with fail
      go_loopw [57] (fun iv wr => ∃ (k : Nat) (lv : Value), iv = .int .i64 (k : Int) ∧ k ≤ rs.length ∧ Hid (Blk wr G 38 #[lv]) ∧ Hid (OwnE0 wr w8.heap.size lv (L.take k)) ∧ Hid (Chg (One G) w8 wr)) (fun iv _ => rs.length - (intOf iv).toNat)
      case atStart => exact ⟨0, .slice none 0 0, rfl, Nat.zero_le _, HG8, OwnW.nil, Chg.refl⟩
      case round =>
        obtain ⟨k, lv, rfl, hk, HGB, HOW, HCH⟩ := hrel
        obtain ⟨Al, cl, hlv⟩ := HOW.out.open_
        have hkl : (L.take k).length = k := by rw [List.length_take]; have := HL.out; omega
        rw [hkl] at hlv
        have HKL := Lib.hid hkl
        clear hkl
        subst hlv
        by_cases hlt : k < rs.length
        · obtain ⟨b1, o1, r, u, rfl, hD1, hx1, hu1, hc1⟩ := SlSS.at_ HRS.out hlt
          obtain ⟨e, he⟩ : ∃ e, L[k]? = some e := ⟨_, List.getElem?_eq_getElem (by have := HL.out; omega)⟩
          have HGR := Lib.hid (HG.out k r e hx1 he)
          have hr3 := HRL.out r (List.mem_of_getElem? hx1)
          obtain ⟨Ar1, cr1, rfl, _, _, hu1⟩ := hu1.open_
          have HE := Lib.hid he
          obtain ⟨w9, hw9⟩ : ∃ w9, wr = w9 := ⟨_, rfl⟩
          rw [hw9] at HGB HOW HCH ⊢
          have HBG : Hid (Below G w8 w9) := HCH.out.below (B := G) (by have := HS8.out; omega) fun i hi e => by have e : i = G := e; omega
          have HM9 := Lib.hid (HM8.out.chg HCH.out (show ¬ w.heap.size = G by have := HGW.out; omega))
          have hG9 : G < w9.heap.size := HGB.out.lt
          have HU9 : Hid (SlP (Lt w9.heap.size) w9 (.slice Ar1 r.length cr1) r) := SlP.keep hu1 (fun b hb => Nat.lt_trans hb hG9) (Same.of_below HBG.out)
          have HH9 : Hid (SlP (Lt w9.heap.size) w9 (.slice Ah hd.length hcp) hd) := SlP.keep HHV8.out (fun b hb => Nat.lt_trans hb hG9) (Same.of_below HBG.out)
          have c0 := (HBG.out.cell (p := ⟨b1, o1 + k, none⟩) hD1).trans hc1
          have d0 := (HBG.out.cell (p := ⟨rb, ro + 0, none⟩) HRC8.out.1).trans HRC8.out.2
          rw [Nat.add_zero] at d0
          have HBW9 : Hid (Below w.heap.size w w9) := HB8.out.trans (HBG.out.mono (by have := HGW.out; omega))
          have e3 : ((r.length : Int) != (hd.length : Int)) = false := by rw [hr3, HHD.out]; rfl
          have i0 : (0 : Int) < ((rs.length + 1 : Nat) : Int) := by omega
          clear hx1 he hu1 hc1 hD1 hr3 hw9
          go_upto_region 17 with fail
          clear e3
          obtain ⟨sa, sb, st, n, g1, g2, g3, g4, g5, g6, g7, rfl⟩ := HGR.out.ex
          have HEV : Hid (∀ W, Below w9.heap.size w9 W → Calls Tryz.prog 54 #[.slice Ar1 r.length cr1, .slice Ah hd.length hcp, .agg #[.int .i64 0, .int .i64 1, .int .i64 (-1), .int .i64 (-1), .int .i64 2, .slice none 0 0, .slice none 0 0, .int .u8 44]] W fun e w' => e = .returned (.tuple #[.agg #[.string (bsOf sa), .string (bsOf sb), .string ⟨#[]⟩, .int .i64 5, .int .i64 n, .slice none 0 0], .int .i64 0, .int .i64 0]) ∧ Below W.heap.size W w') := Lib.hid fun W hW =>
            event_plain r hd _ _ _ m3 W (HU9.out.now hW) (isMp_m3 W) rfl rfl rfl 0 1 2 rfl rfl rfl sa sb st g1 g2 g3 g4 g5 n g6 g7 ((HAM.out.now HBW9.out).now hW)
          have HE2 : Hid (L[k]? = some ⟨bsOf sa, bsOf sb, ⟨#[]⟩, 5, n, []⟩) := HE.out
          generalize bsOf sa = xa at *
          generalize bsOf sb = xb at *
          clear g1 g2 g3 g4 g5 g6 g7 HGR HE
          have hEV0 := c0
          clear hEV0
          go_cut [15, 16, 17] from 73 to 82 (fun pv kv ev W => ∃ T : Nat, pv = .pointer (some ⟨T, 0, none⟩) ∧ kv = .int .i64 0 ∧ ev = .int .i64 0 ∧ Blk W T 69 #[.string xa, .string xb, .string ⟨#[]⟩, .int .i64 5, .int .i64 n, .slice none 0 0] ∧ Below w9.heap.size w9 W)
          case first =>
            clear HMP HHD HL HRL HG HAM HGW HS8 HLP HB8 HM8 HO8 HP8 HHV8 HRS HRB HGB HOW HCH HE2 HU9 HH9 HBG HBW9 c0
            rename_i J1 K1 hJ hK
            refine wp_region_mk (by kernel_rfl) (by kernel_rfl) (by kernel_rfl) mk10 (evF (.slice Ar1 r.length cr1) (.slice (some ⟨rb, ro, none⟩) (rs.length + 1) rcap) (.slice Ah hd.length hcp) (.agg #[.int .i64 0, .int .i64 1, .int .i64 (-1), .int .i64 (-1), .int .i64 2, .slice none 0 0, .slice none 0 0, .int .u8 44]) (.agg #[.string xa, .string xb, .string ⟨#[]⟩, .int .i64 5, .int .i64 n, .slice none 0 0]) rb ro 69 #[.string xa, .string xb, .string ⟨#[]⟩, .int .i64 5, .int .i64 n, .slice none 0 0]) ?hstep ?hmk ?hend ?hall
            case hall => exact hall_of (by kernel_rfl)
            case hmk =>
              intro i o ho hm
              match i, ho with
              | 0, ho => exact absurd hm (by decide)
              | 1, ho => exact absurd hm (by decide)
              | 2, ho => exact absurd hm (by decide)
              | 3, ho => exact absurd hm (by decide)
              | 4, ho => exact absurd hm (by decide)
              | 5, ho => exact absurd hm (by decide)
              | 6, ho => exact absurd hm (by decide)
              | 7, ho => exact absurd hm (by decide)
              | 8, ho => exact absurd hm (by decide)
              | 9, ho => exact absurd hm (by decide)
              | 10, ho => injection ho with ho; subst ho; simp
              | 11, ho => exact absurd hm (by decide)
              | 12, ho => exact absurd hm (by decide)
              | 13, ho => exact absurd hm (by decide)
              | n + 14, ho => simp at ho
            case hstep =>
              intro i o ho listed a W hsh hi hk hM
              have hni := ready_not hi
              have hup : Up listed 11 → Up listed 10 := fun h => hsh.up h (by kernel_rfl)
              have hbW : Below w9.heap.size w9 W := (Below.refl _ _).drew.trans hM.below
              match i, ho with
              | 0, ho =>
                injection ho with ho
                subst ho
                have k1 : a.eval (.tmp 14) = .slice Ar1 r.length cr1 := hk.same (s := 14) (by kernel_rfl)
                exact wpM_moveE _ _ rfl k1 ⟨_, rfl, Below.refl _ _, fun h => absurd h (by decide), fun τ' t1 t2 => ⟨t1 (by simp), fun j hj hji hu => evKeep hup hni t2 (Below.refl _ _) hM.facts j hj hji hu⟩⟩
              | 1, ho =>
                injection ho with ho
                subst ho
                have k1 : a.eval (.tmp 7) = .slice (some ⟨rb, ro, none⟩) (rs.length + 1) rcap := hk.same (s := 7) (by kernel_rfl)
                exact wpM_moveE _ _ rfl k1 ⟨_, rfl, Below.refl _ _, fun h => absurd h (by decide), fun τ' t1 t2 => ⟨t1 (by simp), fun j hj hji hu => evKeep hup hni t2 (Below.refl _ _) hM.facts j hj hji hu⟩⟩
              | 2, ho =>
                injection ho with ho
                subst ho
                have e0 : a.eval (.tmp 75) = .slice (some ⟨rb, ro, none⟩) (rs.length + 1) rcap := hM.facts 1 (by decide) (ready_up hi (by kernel_rfl))
                have i0 : (0 : Int) < ((rs.length + 1 : Nat) : Int) := by omega
                exact wpM_run (.pointer (some ⟨rb, ro, none⟩)) W (by simp only [execOp, e0]; simp [go_sem, i0]) ⟨_, rfl, Below.refl _ _, fun h => absurd h (by decide), fun τ' t1 t2 => ⟨t1 (by simp), fun j hj hji hu => evKeep hup hni t2 (Below.refl _ _) hM.facts j hj hji hu⟩⟩
              | 3, ho =>
                injection ho with ho
                subst ho
                have e0 : a.eval (.tmp 76) = .pointer (some ⟨rb, ro, none⟩) := hM.facts 2 (by decide) (ready_up hi (by kernel_rfl))
                have q0 := (hbW.cell (p := ⟨rb, ro, none⟩) (Nat.lt_trans HRC8.out.1 hG9)).trans d0
                exact wpM_load _ _ _ (.slice Ah hd.length hcp) rfl e0 (by simp [go_sem, q0]) ⟨_, rfl, Below.refl _ _, fun h => absurd h (by decide), fun τ' t1 t2 => ⟨t1 (by simp), fun j hj hji hu => evKeep hup hni t2 (Below.refl _ _) hM.facts j hj hji hu⟩⟩
              | 4, ho =>
                injection ho with ho
                subst ho
                have k1 : a.eval (.tmp 3) = .pointer (some ⟨w.heap.size, 0, none⟩) := hk.same (s := 3) (by kernel_rfl)
                obtain ⟨q0, q1, q2, q3, q4, q5, q6, q7⟩ := (HM9.out.now hbW).c8m
                exact wpM_load _ _ _ (.agg #[.int .i64 0, .int .i64 1, .int .i64 (-1), .int .i64 (-1), .int .i64 2, .slice none 0 0, .slice none 0 0, .int .u8 44]) rfl k1 (by simp [go_sem, q0, q1, q2, q3, q4, q5, q6, q7]) ⟨_, rfl, Below.refl _ _, fun h => absurd h (by decide), fun τ' t1 t2 => ⟨t1 (by simp), fun j hj hji hu => evKeep hup hni t2 (Below.refl _ _) hM.facts j hj hji hu⟩⟩
              | 5, ho =>
                injection ho with ho
                subst ho
                have e0 : a.eval (.tmp 74) = .slice Ar1 r.length cr1 := hM.facts 0 (by decide) (ready_up hi (by kernel_rfl))
                have e1 : a.eval (.tmp 77) = .slice Ah hd.length hcp := hM.facts 3 (by decide) (ready_up hi (by kernel_rfl))
                have e2 : a.eval (.tmp 78) = .agg #[.int .i64 0, .int .i64 1, .int .i64 (-1), .int .i64 (-1), .int .i64 2, .slice none 0 0, .slice none 0 0, .int .u8 44] := hM.facts 4 (by decide) (ready_up hi (by kernel_rfl))
                refine wpM_callEv _ _ _ _ rfl rfl (by simp only [List.map_toArray, List.map_cons, List.map_nil, e0, e1, e2]) ((HEV.out W hbW).mono ?_)
                rintro e W' ⟨rfl, hb'⟩
                exact ⟨_, rfl, _, rfl, hb'.mono hbW.size, fun h => absurd h (by decide), fun τ' t1 t2 => ⟨t1 (by simp), fun j hj hji hu => evKeep hup hni t2 hb' hM.facts j hj hji hu⟩⟩
              | 6, ho =>
                injection ho with ho
                subst ho
                have e0 : a.eval (.tmp 79) = .tuple #[.agg #[.string xa, .string xb, .string ⟨#[]⟩, .int .i64 5, .int .i64 n, .slice none 0 0], .int .i64 0, .int .i64 0] := hM.facts 5 (by decide) (ready_up hi (by kernel_rfl))
                exact wpM_moveE _ _ rfl e0 ⟨_, rfl, Below.refl _ _, fun h => absurd h (by decide), fun τ' t1 t2 => ⟨t1 (by simp), fun j hj hji hu => evKeep hup hni t2 (Below.refl _ _) hM.facts j hj hji hu⟩⟩
              | 7, ho =>
                injection ho with ho
                subst ho
                have e0 : a.eval (.tmp 73) = .tuple #[.agg #[.string xa, .string xb, .string ⟨#[]⟩, .int .i64 5, .int .i64 n, .slice none 0 0], .int .i64 0, .int .i64 0] := hM.facts 6 (by decide) (ready_up hi (by kernel_rfl))
                exact wpM_run (.agg #[.string xa, .string xb, .string ⟨#[]⟩, .int .i64 5, .int .i64 n, .slice none 0 0]) W (by simp only [execOp, e0]; simp [go_sem]) ⟨_, rfl, Below.refl _ _, fun h => absurd h (by decide), fun τ' t1 t2 => ⟨t1 (by simp), fun j hj hji hu => evKeep hup hni t2 (Below.refl _ _) hM.facts j hj hji hu⟩⟩
              | 8, ho =>
                injection ho with ho
                subst ho
                have e0 : a.eval (.tmp 73) = .tuple #[.agg #[.string xa, .string xb, .string ⟨#[]⟩, .int .i64 5, .int .i64 n, .slice none 0 0], .int .i64 0, .int .i64 0] := hM.facts 6 (by decide) (ready_up hi (by kernel_rfl))
                exact wpM_run (.int .i64 0) W (by simp only [execOp, e0]; simp [go_sem]) ⟨_, rfl, Below.refl _ _, fun h => absurd h (by decide), fun τ' t1 t2 => ⟨t1 (by simp), fun j hj hji hu => evKeep hup hni t2 (Below.refl _ _) hM.facts j hj hji hu⟩⟩
              | 9, ho =>
                injection ho with ho
                subst ho
                have e0 : a.eval (.tmp 73) = .tuple #[.agg #[.string xa, .string xb, .string ⟨#[]⟩, .int .i64 5, .int .i64 n, .slice none 0 0], .int .i64 0, .int .i64 0] := hM.facts 6 (by decide) (ready_up hi (by kernel_rfl))
                exact wpM_run (.int .i64 0) W (by simp only [execOp, e0]; simp [go_sem]) ⟨_, rfl, Below.refl _ _, fun h => absurd h (by decide), fun τ' t1 t2 => ⟨t1 (by simp), fun j hj hji hu => evKeep hup hni t2 (Below.refl _ _) hM.facts j hj hji hu⟩⟩
              | 10, ho =>
                injection ho with ho
                subst ho
                exact wpM_alloc _ _ _ rfl (alEv W) ⟨_, rfl, (bone _ _).mono hbW.size, fun _ => ⟨Nat.le_refl _, by simp [blkOf]⟩, fun τ' t1 t2 => ⟨⟨_, t1 (by simp), _, _, _, _, _, _, Blk.new _ _ _⟩, fun j hj hji hu => evKeep hup hni t2 (bone _ _) hM.facts j hj hji hu⟩⟩
              | 11, ho =>
                injection ho with ho
                subst ho
                have u1 := ready_up hi (show Region.waitsFor .any _ 11 10 = true by kernel_rfl)
                obtain ⟨p, e1, x0, x1, x2, x3, x4, x5, hp⟩ := hM.facts 10 (by decide) u1
                have k1 : a.eval (.tmp 15) = .pointer (some ⟨p, 0, none⟩) := e1
                have k2 : a.eval (.tmp 80) = .agg #[.string xa, .string xb, .string ⟨#[]⟩, .int .i64 5, .int .i64 n, .slice none 0 0] := hM.facts 7 (by decide) (ready_up hi (by kernel_rfl))
                have hlo := hM.lo 10 (by decide) rfl u1
                rw [e1] at hlo
                have hlo1 : w9.heap.size ≤ p := hlo.1
                obtain ⟨q0, q1, q2, q3, q4, q5⟩ := hp.c6
                have f0 := hp.frozen 0
                have f1 := hp.frozen 1
                have f2 := hp.frozen 2
                have f3 := hp.frozen 3
                have f4 := hp.frozen 4
                have f5 := hp.frozen 5
                have hset : Blk ((((((W.setCell ⟨p, 0, none⟩ (.string xa)).setCell ⟨p, 1, none⟩ (.string xb)).setCell ⟨p, 2, none⟩ (.string ⟨#[]⟩)).setCell ⟨p, 3, none⟩ (.int .i64 5)).setCell ⟨p, 4, none⟩ (.int .i64 n)).setCell ⟨p, 5, none⟩ (.slice none 0 0)) p 69 #[.string xa, .string xb, .string ⟨#[]⟩, .int .i64 5, .int .i64 n, .slice none 0 0] := (((((hp.set_ 0 (.string xa)).set_ 1 (.string xb)).set_ 2 (.string ⟨#[]⟩)).set_ 3 (.int .i64 5)).set_ 4 (.int .i64 n)).set_ 5 (.slice none 0 0)
                have hbs : Below w9.heap.size W ((((((W.setCell ⟨p, 0, none⟩ (.string xa)).setCell ⟨p, 1, none⟩ (.string xb)).setCell ⟨p, 2, none⟩ (.string ⟨#[]⟩)).setCell ⟨p, 3, none⟩ (.int .i64 5)).setCell ⟨p, 4, none⟩ (.int .i64 n)).setCell ⟨p, 5, none⟩ (.slice none 0 0)) := ((((((Below.refl _ _).setCell (p := ⟨p, 0, none⟩) hlo1 _).setCell (p := ⟨p, 1, none⟩) hlo1 _).setCell (p := ⟨p, 2, none⟩) hlo1 _).setCell (p := ⟨p, 3, none⟩) hlo1 _).setCell (p := ⟨p, 4, none⟩) hlo1 _).setCell (p := ⟨p, 5, none⟩) hlo1 _
                refine wpM_store _ _ _ _ _ ((((((W.setCell ⟨p, 0, none⟩ (.string xa)).setCell ⟨p, 1, none⟩ (.string xb)).setCell ⟨p, 2, none⟩ (.string ⟨#[]⟩)).setCell ⟨p, 3, none⟩ (.int .i64 5)).setCell ⟨p, 4, none⟩ (.int .i64 n)).setCell ⟨p, 5, none⟩ (.slice none 0 0)) () rfl k1 k2 (by simp [go_sem, q0, q1, q2, q3, q4, q5, f0, f1, f2, f3, f4, f5]) ⟨_, rfl, hbs, fun h => absurd h (by decide), fun τ' t1 t2 => ⟨⟨p, (t2 10 (by decide) (by decide)).trans e1, hset⟩, fun j hj hji hu => ?_⟩⟩
                match j, hj with
                | 0, _ => exact (t2 0 (by decide) hji).trans (hM.facts 0 (by decide) hu)
                | 1, _ => exact (t2 1 (by decide) hji).trans (hM.facts 1 (by decide) hu)
                | 2, _ => exact (t2 2 (by decide) hji).trans (hM.facts 2 (by decide) hu)
                | 3, _ => exact (t2 3 (by decide) hji).trans (hM.facts 3 (by decide) hu)
                | 4, _ => exact (t2 4 (by decide) hji).trans (hM.facts 4 (by decide) hu)
                | 5, _ => exact (t2 5 (by decide) hji).trans (hM.facts 5 (by decide) hu)
                | 6, _ => exact (t2 6 (by decide) hji).trans (hM.facts 6 (by decide) hu)
                | 7, _ => exact (t2 7 (by decide) hji).trans (hM.facts 7 (by decide) hu)
                | 8, _ => exact (t2 8 (by decide) hji).trans (hM.facts 8 (by decide) hu)
                | 9, _ => exact (t2 9 (by decide) hji).trans (hM.facts 9 (by decide) hu)
                | 10, _ => exact ⟨p, (t2 10 (by decide) (by decide)).trans e1, _, _, _, _, _, _, hset⟩
                | 11, _ => exact absurd rfl hji
                | 12, _ => exact (t2 12 (by decide) hji).trans (hM.facts 12 (by decide) hu)
                | 13, _ => exact (t2 13 (by decide) hji).trans (hM.facts 13 (by decide) hu)
              | 12, ho =>
                injection ho with ho
                subst ho
                have e0 : a.eval (.tmp 81) = .int .i64 0 := hM.facts 8 (by decide) (ready_up hi (by kernel_rfl))
                exact wpM_assign _ _ rfl e0 ⟨_, rfl, Below.refl _ _, fun h => absurd h (by decide), fun τ' t1 t2 => ⟨t1 (by simp), fun j hj hji hu => evKeep hup hni t2 (Below.refl _ _) hM.facts j hj hji hu⟩⟩
              | 13, ho =>
                injection ho with ho
                subst ho
                have e0 : a.eval (.tmp 82) = .int .i64 0 := hM.facts 9 (by decide) (ready_up hi (by kernel_rfl))
                exact wpM_assign _ _ rfl e0 ⟨_, rfl, Below.refl _ _, fun h => absurd h (by decide), fun τ' t1 t2 => ⟨t1 (by simp), fun j hj hji hu => evKeep hup hni t2 (Below.refl _ _) hM.facts j hj hji hu⟩⟩
              | n + 14, ho => simp at ho
            case hend =>
              intro listed a W hupp hk hM
              have hbW : Below w9.heap.size w9 W := (Below.refl _ _).drew.trans hM.below
              obtain ⟨p, e10, hp⟩ := hM.facts 11 (by decide) (hupp 11 (by decide))
              have x74 := hM.facts 0 (by decide) (hupp 0 (by decide))
              have x75 := hM.facts 1 (by decide) (hupp 1 (by decide))
              have x76 := hM.facts 2 (by decide) (hupp 2 (by decide))
              have x77 := hM.facts 3 (by decide) (hupp 3 (by decide))
              have x78 := hM.facts 4 (by decide) (hupp 4 (by decide))
              have x79 := hM.facts 5 (by decide) (hupp 5 (by decide))
              have x73 := hM.facts 6 (by decide) (hupp 6 (by decide))
              have x80 := hM.facts 7 (by decide) (hupp 7 (by decide))
              have x81 := hM.facts 8 (by decide) (hupp 8 (by decide))
              have x82 := hM.facts 9 (by decide) (hupp 9 (by decide))
              have x16 := hM.facts 12 (by decide) (hupp 12 (by decide))
              have x17 := hM.facts 13 (by decide) (hupp 13 (by decide))
              have y15 : Act.slot a 15 = .pointer (some ⟨p, 0, none⟩) := e10
              have y16 : Act.slot a 16 = .int .i64 0 := x16
              have y17 : Act.slot a 17 = .int .i64 0 := x17
              refine hK _ _ ?_
              rw [hk.form (by kernel_rfl)]
              simp only [putsAll, Option.getD_some, Act.put, List.setIfInBounds_toArray, List.set_cons_zero, List.set_cons_succ, y15, y16, y17]
              go_meet
              exact ⟨p, rfl, rfl, rfl, hp, hbW⟩
          case rest =>
            obtain ⟨T, rfl, rfl, rfl, hT, hbT⟩ := hcut
            obtain ⟨w10, hw10⟩ : ∃ w10, wc = w10 := ⟨_, rfl⟩
            rw [hw10] at hT hbT ⊢
            have HT := Lib.hid hT
            have HGB2 := Lib.hid (HGB.out.now hbT)
            have HOW2 := Lib.hid (OwnW.now HOW.out hbT)
            have HCH2 := Lib.hid (HCH.out.trans (Chg.of_below hbT))
            obtain ⟨t0, t1, t2, t3, t4, t5⟩ := hT.c6
            have l0 := HGB2.out.c1
            have fz := HGB2.out.frozen 0
            have HSZ := Lib.hid HCH2.out.size
            clear hw10 hT hbT d0 c0
            go_wp2_with (at_builtin; refine wpList_pushW (fc := evC) appEvs rfl (.tmp 93) (.tmp 95) rfl w10 ⟨xa, xb, ⟨#[]⟩, 5, n, []⟩ (L.take k) rfl (evC_one _) _ rfl HOW2.out rfl (by rw [HKL.out]; have := HL.out; omega) HSZ.out ?_; intro v' w11 hown hgr hat; have hne : some G ≠ (Value.slice Al k cl).ownBlock := (fun e => by have h1 := (World.ownsRow.lt HOW2.out _ e.symm).1; have h2 := HGB.out.lt; have h3 := HS8.out; omega); have gb := (HGB2.out.grown hgr hne).c1; have gf := (HGB2.out.grown hgr hne).frozen 0; obtain ⟨Av, cv, hav⟩ := OwnE0.open_ hown; have hlen : (L.take k ++ [(⟨xa, xb, ⟨#[]⟩, 5, n, []⟩ : Ev)]).length = k + 1 := (by rw [List.length_append, HKL.out]; rfl); rw [hlen] at hav; subst hav; have HGB3 := Lib.hid (HGB2.out.grown hgr hne); have HOW3 := Lib.hid hown; have HCH3 := Lib.hid (HCH2.out.more hgr (fun g hg => .inl (World.ownsRow.lt HOW2.out g hg).1)); clear hown hgr hat hne hlen)
            have HTK : Hid (L.take (k + 1) = L.take k ++ [⟨xa, xb, ⟨#[]⟩, 5, n, []⟩]) := by show _ = _; rw [List.take_add_one, HE2.out]; rfl
            have HOW4 := Lib.hid (OwnE0.chg HOW3.out (Chg.refl.set (p := ⟨G, 0, none⟩) (.inr (show One G G from rfl)) (.slice Av (k + 1) cv)) (by have := HS8.out; omega))
            have HGB4 := Lib.hid (HGB3.out.set_ 0 (.slice Av (k + 1) cv))
            have HCH4 := Lib.hid (HCH3.out.set (p := ⟨G, 0, none⟩) (.inr (show One G G from rfl)) (.slice Av (k + 1) cv))
            go_roundw
            case rel => exact ⟨k + 1, _, by go_num, by omega, HGB4, (by rw [HTK.out]; exact HOW4), HCH4⟩
            case measure => simp [intOf]; omega
        · have hkk : k = rs.length := by omega
          have hLk : L.take k = L := List.take_of_length_le (by have := HL.out; omega)
          rw [hLk] at HOW
          have hkL : k = L.length := by have := HL.out; omega
          rw [hkL] at HOW HGB
          obtain ⟨g, cap, hgv, hc1, hgb, hgs⟩ := OwnW.form HOW.out h0
          injection hgv with hgv1 _ hgv2
          subst hgv1 hgv2
          have HST := Lib.hid (stable_small HOW.out h0 h20)
          have HOWN := Lib.hid HOW.out
          have l0 := HGB.out.c1
          clear hkk hLk hkL HKL
          obtain ⟨w9, hw9⟩ : ∃ w9, wr = w9 := ⟨_, rfl⟩
          rw [hw9] at HST HGB HOWN HCH l0 hgs ⊢
          have hgG : g ≠ G := by have := HS8.out; omega
          have HBG : Hid (Below G w8 w9) := HCH.out.below (B := G) (by have := HS8.out; omega) fun i hi e => by have e : i = G := e; omega
          clear hw9 HOW
          go_wp2_with fail
          (with_reducible refine HST.out.mono ?_)
          rintro _ w10 ⟨rfl, hso, hgr⟩
          have HSO := Lib.hid hso
          have HGB2 := Lib.hid (HGB.out.grown hgr (fun e => by injection e with e; exact hgG e.symm))
          have HB10 : Hid (Below w.heap.size w w10) := (HB8.out.trans (HBG.out.mono (by have := HGW.out; omega))).grown hgr (by have := HB8.out.size; have := HBG.out.size; omega) (fun g' e => by injection e with e; have := HB8.out.size; omega)
          have HO10 := Lib.hid ((HO8.out.below HBG.out (by have := HGW.out; omega)).grown hgr (fun e => by injection e with e; have := HGW.out; have := HS8.out; omega))
          have HP10 := Lib.hid ((HP8.out.below HBG.out (by have := HGW.out; omega)).grown hgr (fun e => by injection e with e; have := HGW.out; have := HS8.out; omega))
          clear hso hgr
          have b0 := HGB2.out.c1
          have o0 := HO10.out.c1
          obtain ⟨p0, p1⟩ := HP10.out.c2
          have fo := HO10.out.frozen 0
          have f0 := HP10.out.frozen 0
          have f1 := HP10.out.frozen 1
          go_wp2_with fail
          have hOb : w.heap.size + 1 < w8.heap.size := by have := HGW.out; have := HS8.out; omega
          have hPb : w.heap.size + 1 + 1 < w8.heap.size := by have := HGW.out; have := HS8.out; omega
          have q1 := OwnE0.chg HSO.out (Chg.refl.set (p := ⟨w.heap.size + 1, 0, none⟩) (.inr (show One (w.heap.size + 1) (w.heap.size + 1) from rfl)) (.slice (some ⟨g, 0, none⟩) L.length cl)) hOb
          have q2 := OwnE0.chg q1 (Chg.refl.set (p := ⟨w.heap.size + 1 + 1, 0, none⟩) (.inr (show One (w.heap.size + 1 + 1) (w.heap.size + 1 + 1) from rfl)) (.int .i64 0)) hPb
          have q3 := OwnE0.chg q2 (Chg.refl.set (p := ⟨w.heap.size + 1 + 1, 1, none⟩) (.inr (show One (w.heap.size + 1 + 1) (w.heap.size + 1 + 1) from rfl)) (.int .i64 0)) hPb
          have hz1 : Blk (((w10.setCell ⟨w.heap.size + 1, 0, none⟩ (.slice (some ⟨g, 0, none⟩) L.length cl)).setCell ⟨w.heap.size + 1 + 1, 0, none⟩ (.int .i64 0)).setCell ⟨w.heap.size + 1 + 1, 1, none⟩ (.int .i64 0)) (w.heap.size + 1) 38 #[.slice (some ⟨g, 0, none⟩) L.length cl] :=
            ((HO10.out.set_ 0 (.slice (some ⟨g, 0, none⟩) L.length cl)).far (p := ⟨w.heap.size + 1 + 1, 0, none⟩) (show w.heap.size + 1 ≠ w.heap.size + 1 + 1 by omega) _).far (p := ⟨w.heap.size + 1 + 1, 1, none⟩) (show w.heap.size + 1 ≠ w.heap.size + 1 + 1 by omega) _
          have hz2 : Blk (((w10.setCell ⟨w.heap.size + 1, 0, none⟩ (.slice (some ⟨g, 0, none⟩) L.length cl)).setCell ⟨w.heap.size + 1 + 1, 0, none⟩ (.int .i64 0)).setCell ⟨w.heap.size + 1 + 1, 1, none⟩ (.int .i64 0)) (w.heap.size + 1 + 1) 40 #[.int .i64 0, .int .i64 0] :=
            ((HP10.out.far (p := ⟨w.heap.size + 1, 0, none⟩) (show w.heap.size + 1 + 1 ≠ w.heap.size + 1 by omega) _).set_ 0 (.int .i64 0)).set_ 1 (.int .i64 0)
          have hbz := ((HB10.out.setCell (p := ⟨w.heap.size + 1, 0, none⟩) (show w.heap.size ≤ w.heap.size + 1 by omega) (.slice (some ⟨g, 0, none⟩) L.length cl)).setCell (p := ⟨w.heap.size + 1 + 1, 0, none⟩) (show w.heap.size ≤ w.heap.size + 1 + 1 by omega) (.int .i64 0)).setCell (p := ⟨w.heap.size + 1 + 1, 1, none⟩) (show w.heap.size ≤ w.heap.size + 1 + 1 by omega) (.int .i64 0)
          generalize ((w10.setCell ⟨w.heap.size + 1, 0, none⟩ (.slice (some ⟨g, 0, none⟩) L.length cl)).setCell ⟨w.heap.size + 1 + 1, 0, none⟩ (.int .i64 0)).setCell ⟨w.heap.size + 1 + 1, 1, none⟩ (.int .i64 0) = wz at q3 hz1 hz2 hbz ⊢
          have r0 := hz1.c1
          obtain ⟨r1, r2⟩ := hz2.c2
          refine bodyPost_ret (v := .tuple #[.agg #[.slice (some ⟨g, 0, none⟩) L.length cl], .agg #[.int .i64 0, .int .i64 0], .int .i64 0]) (by simp [results, Tryz.results16, go_sem, r0, r1, r2]) rfl ?_
          refine ⟨_, rfl, ⟨_, rfl, ?_⟩, hbz⟩
          refine OwnW.sl q3 (fun _ => rfl) fun D W x hx => ?_
          haveI : Inhabited Ev := ⟨L[0]'h0⟩
          have hx := (perm_sortS (lt := tlt) L).mem_iff.1 hx
          obtain ⟨i, hi, rfl⟩ := List.mem_iff_getElem.1 hx
          obtain ⟨r, hr⟩ : ∃ r, rs[i]? = some r := ⟨_, List.getElem?_eq_getElem (by have := HL.out; omega)⟩
          obtain ⟨sa, sb, st, n, g1, g2, g3, g4, g5, g6, g7, he⟩ := (HG.out i r _ hr (List.getElem?_eq_getElem hi)).ex
          have hn := natE_fit st
          rw [g6] at hn
          rw [he]
          refine ⟨.slice none 0 0, rfl, ?_, Sl.none_⟩
          have ha := isName_le g4
          have hb := isName_le g5
          exact ⟨by unfold maxLen; simp only; omega, by unfold maxLen; simp only; omega, by unfold maxLen; simp only; exact Nat.zero_le _, by unfold Fit; simp only; omega, by unfold Fit; simp only; omega⟩
end Go.Proofs.YtoalecalahkblaaGreatDoor
