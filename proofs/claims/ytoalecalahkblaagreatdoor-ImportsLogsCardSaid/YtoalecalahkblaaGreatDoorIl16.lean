/- Texts of this seat, merged. -/
import Derived.Test.YtoalecalahkblaaGreatDoorIl01
import Derived.Test.YtoalecalahkblaaGreatDoorIl02
import Derived.Test.YtoalecalahkblaaGreatDoorIl03
import Derived.Test.YtoalecalahkblaaGreatDoorIl04
import Derived.Test.YtoalecalahkblaaGreatDoorIl05
import Derived.Test.YtoalecalahkblaaGreatDoorIl06
import Derived.Test.YtoalecalahkblaaGreatDoorIl07
import Derived.Test.YtoalecalahkblaaGreatDoorIl08
import Derived.Test.YtoalecalahkblaaGreatDoorIl15
set_option linter.all false
set_option linter.all false
namespace Go.Proofs.YtoalecalahkblaaGreatDoor
open Go.RowKit
abbrev EvS := Ev × Option Addr × Nat × Nat
def evS (p : EvS) : List Value := [.string p.1.cas, .string p.1.act, .string p.1.res, .int .i64 p.1.life, .int .i64 p.1.time, .slice p.2.1 p.2.2.1 p.2.2.2]
theorem evS_one (p : EvS) : ∀ v ∈ evS p, v.oneCell' = true := fun v hv => by
  simp [evS] at hv
  rcases hv with rfl | rfl | rfl | rfl | rfl | rfl <;> rfl
def slt (x y : EvS) : Bool := decide (x.1.time < y.1.time)
theorem swo_slt : Go.Sort.SWO slt := by
  refine ⟨fun x => ?_, fun x y z => ?_, fun x y z => ?_⟩ <;> unfold slt
  · simp
  · simp only [decide_eq_true_eq]; omega
  · simp only [decide_eq_false_iff_not]; omega
theorem ltOf_slt : (Go.Proofs.ltOf fun x y : EvS => Lib.compareInt x.1.time y.1.time) = slt := by
  funext x y
  unfold slt
  show decide ((if x.1.time < y.1.time then (-1 : Int) else if x.1.time > y.1.time then 1 else 0) < 0) = _
  by_cases h : x.1.time < y.1.time
  · rw [if_pos h, decide_eq_true h]; rfl
  · rw [if_neg h, decide_eq_false h]
    by_cases h2 : x.1.time > y.1.time
    · rw [if_pos h2]; rfl
    · rw [if_neg h2]; rfl
theorem mg_map {α β : Type} (f : α → β) (lt : α → α → Bool) (lt' : β → β → Bool) (h : ∀ x y, lt' (f x) (f y) = lt x y) : ∀ X Y : List α, (mg lt X Y).map f = mg lt' (X.map f) (Y.map f)
  | [], Y => by simp [mg]
  | x :: X, [] => by simp [mg]
  | x :: X, y :: Y => by
    simp only [List.map_cons]
    unfold mg
    rw [h]
    split
    · rw [List.map_cons, mg_map f lt lt' h (x :: X) Y]; rfl
    · rw [List.map_cons, mg_map f lt lt' h X (y :: Y)]; rfl
termination_by X Y => X.length + Y.length
theorem sortS_map {α β : Type} (f : α → β) (lt : α → α → Bool) (lt' : β → β → Bool) (h : ∀ x y, lt' (f x) (f y) = lt x y) (L : List α) : (sortS lt L).map f = sortS lt' (L.map f) := by
  unfold sortS
  suffices H : ∀ (L X : List α), (L.foldl (insL lt) X).map f = (L.map f).foldl (insL lt') (X.map f) from H L []
  intro L
  induction L with
  | nil => intro X; rfl
  | cons y L ih =>
    intro X
    rw [List.foldl_cons, ih, List.map_cons, List.foldl_cons]
    unfold insL
    rw [mg_map f lt lt' h]
    rfl
theorem evCmpS_any (x y : EvS) (W : World) :
    Calls Tryz.prog 56 #[.agg (evS x).toArray, .agg (evS y).toArray] W fun e w' => e = .returned (.int .i64 (Lib.compareInt x.1.time y.1.time)) ∧ ∃ q os', w' = Go.Sort.grow (W.drewN q) os' := by
  obtain ⟨x, xA, xn, xc⟩ := x
  obtain ⟨y, yA, yn, yc⟩ := y
  have hb1 := bone W (.cells (evS (x, xA, xn, xc)).toArray 69)
  have hb2 := bone (W.alloc (.cells (evS (x, xA, xn, xc)).toArray 69)) (.cells (evS (y, yA, yn, yc)).toArray 69)
  unfold evS at hb1 hb2 ⊢
  dsimp only at hb1 hb2 ⊢
  have HX := Lib.hid ((Blk.new W 69 #[.string x.cas, .string x.act, .string x.res, .int .i64 x.life, .int .i64 x.time, .slice xA xn xc]).now hb2)
  have HY := Lib.hid (Blk.new (W.alloc (.cells #[.string x.cas, .string x.act, .string x.res, .int .i64 x.life, .int .i64 x.time, .slice xA xn xc] 69)) 69 #[.string y.cas, .string y.act, .string y.res, .int .i64 y.life, .int .i64 y.time, .slice yA yn yc])
  have hsz1 : (W.alloc (.cells #[.string x.cas, .string x.act, .string x.res, .int .i64 x.life, .int .i64 x.time, .slice xA xn xc] 69)).heap.size = W.heap.size + 1 := by simp
  rw [hsz1] at HY
  have HG : Hid (∃ q os', (W.alloc (.cells #[.string x.cas, .string x.act, .string x.res, .int .i64 x.life, .int .i64 x.time, .slice xA xn xc] 69)).alloc (.cells #[.string y.cas, .string y.act, .string y.res, .int .i64 y.life, .int .i64 y.time, .slice yA yn yc] 69) = Go.Sort.grow (W.drewN q) os') := Lib.hid ⟨0, _, by rw [Go.Sort.alloc_eq_grow, Go.Sort.alloc_eq_grow, Go.Sort.grow_grow]; rfl⟩
  have HC := Lib.hid (Tryz.cmp_Compare_int x.time y.time)
  clear hb1 hb2 hsz1
  go_enter Tryz.func56, Tryz.ntmps56
  go_upto_region 1 with fail
  obtain ⟨w2, hw2⟩ : ∃ w2, (W.alloc (.cells #[.string x.cas, .string x.act, .string x.res, .int .i64 x.life, .int .i64 x.time, .slice xA xn xc] 69)).alloc (.cells #[.string y.cas, .string y.act, .string y.res, .int .i64 y.life, .int .i64 y.time, .slice yA yn yc] 69) = w2 := ⟨_, rfl⟩
  rw [hw2] at HX HY HG ⊢
  clear hw2
  obtain ⟨a0, a1, a2, a3, a4, a5⟩ := HX.out.c6
  obtain ⟨b0, b1, b2, b3, b4, b5⟩ := HY.out.c6
  go_wp2_with fail
  (with_reducible refine (HC.out _).mono ?_)
  rintro e w' ⟨rfl, rfl⟩
  go_wp2_with fail
  go_ret
  exact ⟨rfl, HG.out⟩
theorem evs_of {X : Nat → Prop} {w : World} {base t : Nat} {v : Value} {L : List Ev} (h : OwnR 6 REv X w base t v L) :
    ∃ P : List EvS, P.map (·.1) = L ∧ OwnW 6 evS w base t v P ∧ ∀ p ∈ P, FitEv p.1 ∧ SlFl (Off X w v) w (.slice p.2.1 p.2.2.1 p.2.2.2) p.1.data := by
  obtain ⟨cs, ho, he⟩ := h
  have H : ∀ i : Fin L.length, ∃ p : EvS, p.1 = L[i.1] ∧ (∀ j u, (evS p)[j]? = some u → cs[i.1 * 6 + j]? = some u) ∧ FitEv p.1 ∧ SlFl (Off X w v) w (.slice p.2.1 p.2.2.1 p.2.2.2) p.1.data := fun i => by
    obtain ⟨es, h1, h2, dv, rfl, h4, h5⟩ := he i.1 _ (List.getElem?_eq_getElem i.2)
    obtain ⟨A, c, rfl, _⟩ := h5.open_
    exact ⟨(L[i.1], A, _, c), rfl, h2, h4, h5⟩
  let f : Fin L.length → EvS := fun i => Classical.choose (H i)
  have hf : ∀ i, (f i).1 = L[i.1] ∧ (∀ j u, (evS (f i))[j]? = some u → cs[i.1 * 6 + j]? = some u) ∧ FitEv (f i).1 ∧ SlFl (Off X w v) w (.slice (f i).2.1 (f i).2.2.1 (f i).2.2.2) (f i).1.data := fun i => Classical.choose_spec (H i)
  have hl : (List.ofFn f).length = L.length := List.length_ofFn
  have hat : ∀ i (hi : i < L.length), (List.ofFn f)[i]? = some (f ⟨i, hi⟩) := fun i hi => by
    rw [List.getElem?_eq_getElem (by rw [hl]; exact hi), List.getElem_ofFn]
  have hcs : cs.length = L.length * 6 := ho.1
  have hflat : flat evS (List.ofFn f) = cs := by
    apply List.ext_getElem
    · rw [flat_len (size := 6) (fun _ => rfl), hl, hcs]
    · intro j h1 h2
      obtain ⟨i, r, x, rfl, hr, hx, hu⟩ := flat_at (size := 6) (fc := evS) (fun _ => rfl) (by decide) (List.ofFn f) (List.getElem?_eq_getElem h1)
      have hi : i < L.length := by have := (List.getElem?_eq_some_iff.1 hx).1; omega
      rw [hat i hi] at hx
      injection hx with hx
      subst hx
      have := (hf ⟨i, hi⟩).2.1 r _ hu
      rw [List.getElem?_eq_getElem h2] at this
      injection this with this
      exact this.symm
  refine ⟨List.ofFn f, ?_, ?_, fun p hp => ?_⟩
  · apply List.ext_getElem
    · rw [List.length_map, hl]
    · intro i h1 h2
      rw [List.getElem_map, List.getElem_ofFn]
      exact (hf ⟨i, h2⟩).1
  · unfold OwnW
    rw [hl, hflat]
    exact ho
  · obtain ⟨i, rfl⟩ := List.mem_ofFn.1 hp
    exact (hf i).2.2
theorem of_evs {X : Nat → Prop} {w : World} {base t : Nat} {v : Value} {P : List EvS} (h : OwnW 6 evS w base t v P) (he : ∀ p ∈ P, FitEv p.1 ∧ SlFl (Off X w v) w (.slice p.2.1 p.2.2.1 p.2.2.2) p.1.data) : OwnR 6 REv X w base t v (P.map (·.1)) := by
  refine ⟨flat evS P, by rw [List.length_map]; exact h, fun i x hx => ?_⟩
  rw [List.getElem?_map] at hx
  cases hp : P[i]? with
  | none => rw [hp] at hx; cases hx
  | some p =>
    rw [hp] at hx
    injection hx with hx
    subst hx
    obtain ⟨h1, h2⟩ := he p (List.mem_of_getElem? hp)
    exact ⟨evS p, rfl, fun j u hu => by rw [flat_get (size := 6) (fun _ => rfl) P i j p hp (by have := (List.getElem?_eq_some_iff.1 hu).1; exact this)]; exact hu, _, rfl, h1, h2⟩
theorem stableR_any {X : Nat → Prop} {w : World} {base g cap : Nat} {L : List Ev} (ho : OwnR 6 REv X w base 69 (.slice (some ⟨g, 0, none⟩) L.length cap) L) (h0 : 0 < L.length) (hl : L.length ≤ 1000000) :
    Calls Tryz.prog 55 #[.slice (some ⟨g, 0, none⟩) L.length cap, .func (.func 56) #[] #[]] w fun e w' => e = .returned (.tuple #[]) ∧ OwnR 6 REv X w' base 69 (.slice (some ⟨g, 0, none⟩) L.length cap) (sortS tlt L) ∧ w.grownBy w' (some g) := by
  obtain ⟨P, hP, ho, he⟩ := evs_of ho
  have hPl : P.length = L.length := by rw [← hP, List.length_map]
  rw [← hPl] at ho he h0 hl ⊢
  rw [← hP]
  rcases ho.2 with ⟨_, h1⟩ | ⟨g', cap', cur, hv, hb, hg, hc1, hc2, hc3, htk⟩
  · omega
  injection hv with he1 _ he2
  injection he1 with he1
  injection he1 with he1 _ _
  subst he1 he2
  have hgl : g < w.heap.size := (Array.getElem?_eq_some_iff.1 hg).1
  haveI : Inhabited EvS := ⟨P[0]'h0⟩
  have hF : (Go.Sort.flatK evS 6 P.toArray).toList = flat evS P := by
    have := flatK_eq (k := 6) evS evS (fun x : EvS => x) (fun _ => rfl) (fun _ => rfl) P.toArray
    rw [this, List.map_id']
  have hfl : (flat evS P).length = P.length * 6 := flat_len (size := 6) (fun _ => rfl) P
  have hH : Go.Sort.HoldsK evS 6 w g 0 P.toArray := by
    intro j hj
    have hjs : j < P.length * 6 := by rw [← hfl, ← hF, Array.length_toList]; exact hj
    refine ⟨?_, by simp [World.frozen?, hg]⟩
    have h1 : (cur.toList.take (P.length * 6))[j]? = (flat evS P)[j]? := by rw [htk]
    rw [List.getElem?_take_of_lt (by omega), ← hF] at h1
    simp only [World.cell?, hg, Nat.zero_add, Option.isSome_none, Bool.false_eq_true, if_false]
    rw [← Array.getElem?_toList, h1, Array.getElem?_toList, Array.getElem?_eq_getElem hj, getElem!_pos _ j hj]; rfl
  have hR : Go.Proofs.RowK evS 6 w g 0 P.toArray := ⟨fun _ => rfl, evS_one, hH, hgl⟩
  have h := sortStable_sw Tryz.isAgg69 Tryz.sizeOf69 rfl hR cap 56 (fun x y : EvS => Lib.compareInt x.1.time y.1.time) (by rw [ltOf_slt]; exact swo_slt) enters_evCmp (fun W m os dk hdk x y => evCmpS_any x y _) (by show P.length < _; omega) w P (by simp) (Go.Proofs.SWK.start hH)
  rw [ltOf_slt] at h
  have hsl : (sortS slt P).length = P.length := (perm_sortS (lt := slt) P).length_eq
  refine Calls.mono (show Calls Tryz.prog 55 #[.slice (some ⟨g, 0, none⟩) P.length cap, .func (.func 56) #[] #[]] w _ from h) fun e w' ⟨he1, n, os, hw⟩ => ?_
  have hgr : w.grownBy w' (some g) := by rw [hw]; exact grown_sorted evS 6 w g n _ os
  refine ⟨he1, ?_, hgr⟩
  rw [← sortS_map (fun p : EvS => p.1) slt tlt (fun _ _ => rfl)]
  obtain ⟨S, hS⟩ : ∃ S, sortS slt P = S := ⟨_, rfl⟩
  have hmem : ∀ p ∈ S, p ∈ P := fun p hp => by rw [← hS] at hp; exact (perm_sortS (lt := slt) P).mem_iff.1 hp
  rw [hS] at hsl hw ⊢
  have hF2 : (Go.Sort.flatK evS 6 S.toArray).toList = flat evS S := by
    have := flatK_eq (k := 6) evS evS (fun x : EvS => x) (fun _ => rfl) (fun _ => rfl) S.toArray
    rw [this, List.map_id']
  have hfl2 : (flat evS S).length = S.length * 6 := flat_len (size := 6) (fun _ => rfl) S
  have how : OwnW 6 evS w' base 69 (.slice (some ⟨g, 0, none⟩) P.length cap) S := by
    rw [← hsl]
    refine ⟨hfl2, .inr ⟨g, cap, _, rfl, hb, by rw [hw]; exact heap_sortedK evS 6 w g n S.toArray os hg, by rw [hsl]; exact hc1, hc2, by simp [Go.Sort.putCells, hc3], ?_⟩⟩
    have e1 : S.length * 6 = (Go.Sort.flatK evS 6 S.toArray).size := by rw [Go.Sort.size_flatK]; rfl
    rw [e1, take_put cur _ (by rw [Go.Sort.size_flatK, hc3]; show S.length * 6 ≤ _; omega), hF2]
  refine of_evs how fun p hp => ?_
  obtain ⟨h1, h2⟩ := he p (hmem p hp)
  refine ⟨h1, Sl.keep h2 RFld.kept (fun b hb => ⟨Nat.lt_of_lt_of_le hb.1 hgr.size, hb.2⟩) (fun b hb => hgr.block b hb.1 (fun e => hb.2.1 e.symm))⟩
theorem ins_none (w : World) (fv : Value) : Calls Tryz.prog 148 #[.slice none 0 0, .int .i64 0, .int .i64 0, fv] w fun e w' => e = .returned (.tuple #[]) ∧ w = w' := by
  go_enter Tryz.func148, Tryz.ntmps148
  go_wp2_with fail
  go_loopw [8] (fun a wr => a = .int .i64 1 ∧ w = wr) (fun _ _ => 0)
  case atStart => exact ⟨rfl, rfl⟩
  case round =>
    obtain ⟨rfl, rfl⟩ := hrel
    go_wp2_with fail
    go_end0
    exact ⟨rfl, rfl⟩
set_option maxHeartbeats 2000000 in
theorem stable_none (w : World) : Calls Tryz.prog 55 #[.slice none 0 0, .func (.func 56) #[] #[]] w fun e w' => e = .returned (.tuple #[]) ∧ w = w' := by
  have HI := Lib.hid (fun W => ins_none W (.func (.func 56) #[] #[]))
  have HST : Hid (Calls Tryz.prog 104 #[.slice none 0 0, .int .i64 0, .func (.func 56) #[] #[]] w fun e w' => e = .returned (.tuple #[]) ∧ w = w') := by
    show Calls _ _ _ _ _
    go_enter Tryz.func104, Tryz.ntmps104
    go_wp2_with fail
    go_loopw [7, 8] (fun a b wr => a = .int .i64 0 ∧ b = .int .i64 20 ∧ w = wr) (fun _ _ _ => 0)
    case atStart => exact ⟨rfl, rfl, rfl⟩
    case round =>
      obtain ⟨rfl, rfl, rfl⟩ := hrel
      go_wp2_with fail
      (with_reducible refine (HI.out _).mono ?_)
      rintro e w1 ⟨rfl, rfl⟩
      go_wp2_with fail
      go_loopw [6] (fun a wr => a = .int .i64 20 ∧ w = wr) (fun _ _ => 0)
      case atStart => exact ⟨rfl, rfl⟩
      case round =>
        obtain ⟨rfl, rfl⟩ := hrel
        go_wp2_with fail
        go_end0
        exact ⟨rfl, rfl⟩
  go_enter Tryz.func55, Tryz.ntmps55
  go_wp2_with fail
  (with_reducible refine HST.out.mono ?_)
  rintro e w1 ⟨rfl, rfl⟩
  go_wp2_with fail
  go_end0
  exact ⟨rfl, rfl⟩
end Go.Proofs.YtoalecalahkblaaGreatDoor

set_option linter.all false
namespace Go.Proofs.YtoalecalahkblaaGreatDoor
open Go.RowKit
def impRows (hd : List Bt) (m : Mp) : Nat → List Ev → List (List Bt) → List Ev × (Int × Int) × Int
  | _, acc, [] => (acc, (0, 0), 0)
  | i, acc, r :: rs =>
    if r.length ≠ hd.length then ([], ((i : Int) + 2, 1), 29) else
    if (evE r hd m).2.2 = 0 then impRows hd m (i + 1) (acc ++ [(evE r hd m).1]) rs else ([], ((i : Int) + 2, (evE r hd m).2.1 + 1), (evE r hd m).2.2)
def impT (m : Mp) : List (List Bt) → List Ev × (Int × Int) × Int
  | [] => ([], (0, 0), 4)
  | hd :: rs => if (headE hd m).2 = 0 then (sortS tlt (impRows hd m 0 [] rs).1, (impRows hd m 0 [] rs).2) else ([], (headE hd m).1, (headE hd m).2)
def impE (s : Bt) (m : Mp) : List Ev × (Int × Int) × Int :=
  if mapB m = true then
    if (cellsE m.sep s).2.2 = 0 then impT m (cellsE m.sep s).1 else ([], (cellsE m.sep s).2.1, (cellsE m.sep s).2.2)
  else ([], (0, 0), 1)
theorem quotedR_le {sep : UInt8} : ∀ (n : Nat) (t acc b rest : Bt), t.length ≤ n → quotedR sep acc t = .ok b rest → b.length + rest.length ≤ acc.length + t.length
  | _, [], acc, b, rest, _, h => by unfold quotedR at h; cases h
  | 0, c :: r, acc, b, rest, hn, h => by simp at hn
  | n + 1, c :: r, acc, b, rest, hn, h => by
    have hn' : r.length ≤ n := by simpa using hn
    unfold quotedR at h
    by_cases h1 : printB c = false
    · rw [if_pos h1] at h; cases h
    rw [if_neg h1] at h
    by_cases h2 : c = 34
    · rw [if_pos h2] at h
      cases r with
      | nil => injection h with h3 h4; subst h3 h4; simp
      | cons d r' =>
        dsimp only at h
        by_cases h3 : d = 34
        · rw [if_pos h3] at h
          have := quotedR_le n r' (acc ++ [34]) b rest (by simp at hn'; omega) h
          simp at this ⊢; omega
        · rw [if_neg h3] at h
          by_cases h4 : endsB sep (d :: r') = true
          · rw [if_pos h4] at h; injection h with h5 h6; subst h5 h6; simp
          · rw [if_neg h4] at h; cases h
    · rw [if_neg h2] at h
      have := quotedR_le n r (acc ++ [c]) b rest hn' h
      simp at this ⊢; omega
theorem plainR_le {sep : UInt8} : ∀ (t acc b rest : Bt), plainR sep acc t = .ok b rest → b.length + rest.length ≤ acc.length + t.length
  | [], acc, b, rest, h => by unfold plainR at h; injection h with h1 h2; subst h1 h2; simp
  | c :: r, acc, b, rest, h => by
    unfold plainR at h
    by_cases h1 : c = 10 ∨ c = sep
    · rw [if_pos h1] at h; injection h with h1 h2; subst h1 h2; simp
    rw [if_neg h1] at h
    by_cases h2 : printB c = false ∨ c = 34
    · rw [if_pos h2] at h; cases h
    rw [if_neg h2] at h
    have := plainR_le r (acc ++ [c]) b rest h
    simp at this ⊢; omega
theorem cellR_le {sep : UInt8} {t b rest : Bt} (h : cellR sep t = .ok b rest) : b.length + rest.length ≤ t.length := by
  unfold cellR at h
  split at h
  · have := quotedR_le _ _ [] b rest (Nat.le_refl _) h
    simp at this ⊢; omega
  · have := plainR_le _ [] b rest h
    simpa using this
theorem rowR_le {sep : UInt8} {M : Nat} : ∀ (n : Nat) (acc : List Bt) (t : Bt) (r : List Bt) (rest : Bt), (∀ c ∈ acc, c.length ≤ M) → t.length ≤ M → rowR sep n acc t = .ok r rest → (∀ c ∈ r, c.length ≤ M) ∧ rest.length ≤ M
  | n, acc, t, r, rest, ha, ht, h => by
    have more : ∀ b : Bt, b.length ≤ M → ∀ c ∈ acc ++ [b], c.length ≤ M := fun b hb c hc => by
      rcases List.mem_append.1 hc with hc | hc
      · exact ha c hc
      · rw [List.mem_singleton] at hc; rw [hc]; exact hb
    cases hc : cellR sep t with
    | bad r1 e => cases n <;> (unfold rowR at h; rw [hc] at h; cases h)
    | ok b r1 =>
      have hl := cellR_le hc
      cases r1 with
      | nil =>
        have h' : RowR.ok (acc ++ [b]) [] = .ok r rest := by cases n <;> (unfold rowR at h; rw [hc] at h; exact h)
        injection h' with h1 h2; subst h1 h2
        exact ⟨more b (by omega), Nat.zero_le _⟩
      | cons c r1 =>
        simp at hl
        cases n with
        | zero =>
          have h' : RowR.ok (acc ++ [b]) r1 = .ok r rest := by unfold rowR at h; rw [hc] at h; exact h
          injection h' with h1 h2; subst h1 h2
          exact ⟨more b (by omega), by omega⟩
        | succ n =>
          have h' : (if c = 10 then RowR.ok (acc ++ [b]) r1 else rowR sep n (acc ++ [b]) r1) = .ok r rest := by unfold rowR at h; rw [hc] at h; exact h
          by_cases h10 : c = 10
          · rw [if_pos h10] at h'
            injection h' with h1 h2; subst h1 h2
            exact ⟨more b (by omega), by omega⟩
          · rw [if_neg h10] at h'
            exact rowR_le n _ _ _ _ (more b (by omega)) (by omega) h'
theorem tabR_le {sep : UInt8} {M : Nat} : ∀ (n : Nat) (acc : List (List Bt)) (t : Bt) (rows : List (List Bt)), (∀ r ∈ acc, ∀ c ∈ r, c.length ≤ M) → acc.length ≤ 2001 → t.length ≤ M → tabR sep n acc t = .ok rows → (∀ r ∈ rows, ∀ c ∈ r, c.length ≤ M) ∧ rows.length ≤ 2001
  | n, acc, [], rows, ha, hl, _, h => by
    have h' : TabR.ok acc = .ok rows := by cases n <;> exact h
    injection h' with h'; subst h'
    exact ⟨ha, hl⟩
  | 0, acc, c :: t, rows, ha, hl, _, h => by cases h
  | n + 1, acc, c :: t, rows, ha, hl, ht, h => by
    by_cases h1 : acc.length = 2001
    · rw [tabR_full h1] at h; cases h
    cases hr : rowR sep (c :: t).length [] (c :: t) with
    | bad r1 e => rw [tabR_bad h1 hr] at h; cases h
    | ok r rest =>
      rw [tabR_row h1 hr] at h
      obtain ⟨h2, h3⟩ := rowR_le _ _ _ _ _ (fun _ h => absurd h (by simp)) ht hr
      refine tabR_le n _ _ _ (fun r' hr' => ?_) (by rw [List.length_append, List.length_singleton]; omega) h3 h
      rcases List.mem_append.1 hr' with hr' | hr'
      · exact ha r' hr'
      · rw [List.mem_singleton] at hr'; rw [hr']; exact h2
theorem cells_le (sep : UInt8) (s : Bt) : (∀ r ∈ (cellsE sep s).1, ∀ c ∈ r, c.length ≤ 16384) ∧ (cellsE sep s).1.length ≤ 2001 := by
  unfold cellsE
  by_cases h1 : isSep sep = false
  · rw [if_pos h1]; exact ⟨fun _ h => absurd h (by simp), Nat.zero_le _⟩
  rw [if_neg h1]
  by_cases h2 : 16384 < s.length
  · rw [if_pos h2]; exact ⟨fun _ h => absurd h (by simp), Nat.zero_le _⟩
  rw [if_neg h2]
  cases h : tabR sep s.length [] s with
  | bad r e => exact ⟨fun _ h => absurd h (by simp [tabE]), Nat.zero_le _⟩
  | ok rows => exact tabR_le _ _ _ _ (fun _ h => absurd h (by simp)) (Nat.zero_le _) (by omega) h
theorem headD_ok {r : List Bt} : ∀ (ks seen : List Int), (headD r seen ks).2 = 0 → (∀ k ∈ ks, k < (r.length : Int) ∧ isNameB (bsOf (cellAt r k)) = true ∧ ∀ j ∈ seen, cellAt r j ≠ cellAt r k) ∧ (ks.map (cellAt r)).Nodup
  | [], seen, _ => ⟨fun _ h => absurd h (by simp), by simp⟩
  | k :: ks, seen, h => by
    unfold headD at h
    by_cases h1 : (r.length : Int) ≤ k
    · rw [if_pos h1] at h; exact absurd h (show (10 : Int) ≠ 0 by decide)
    rw [if_neg h1] at h
    by_cases h2 : isNameB (bsOf (cellAt r k)) = false
    · rw [if_pos h2] at h; exact absurd h (show (8 : Int) ≠ 0 by decide)
    rw [if_neg h2] at h
    by_cases h3 : (seen.any fun j => decide (cellAt r j = cellAt r k)) = true
    · rw [if_pos h3] at h; exact absurd h (show (9 : Int) ≠ 0 by decide)
    rw [if_neg h3] at h
    obtain ⟨i1, i2⟩ := headD_ok ks (seen ++ [k]) h
    refine ⟨fun k' hk' => ?_, ?_⟩
    · rcases List.mem_cons.1 hk' with rfl | hk'
      · refine ⟨by omega, by simpa using h2, fun j hj e => h3 ?_⟩
        rw [List.any_eq_true]
        exact ⟨j, hj, decide_eq_true e⟩
      · obtain ⟨a, b, c⟩ := i1 k' hk'
        exact ⟨a, b, fun j hj => c j (List.mem_append_left _ hj)⟩
    · rw [List.map_cons, List.nodup_cons]
      refine ⟨fun hm => ?_, i2⟩
      obtain ⟨k', hk', e⟩ := List.mem_map.1 hm
      exact (i1 k' hk').2.2 k (by simp) e.symm
theorem head_ok {r : List Bt} {m : Mp} (h : (headE r m).2 = 0) : (∀ k ∈ colsX m, k < (r.length : Int)) ∧ (m.data.map (cellAt r)).Nodup ∧ ∀ k ∈ m.data, isNameB (bsOf (cellAt r k)) = true := by
  unfold headE at h
  cases hf : (fieldsB m).find? (fun k => decide ((r.length : Int) ≤ k)) with
  | some k => rw [hf] at h; exact absurd h (show (10 : Int) ≠ 0 by decide)
  | none =>
    rw [hf] at h
    obtain ⟨h1, h2⟩ := headD_ok m.data [] h
    refine ⟨fun k hk => ?_, h2, fun k hk => (h1 k hk).2.1⟩
    rcases List.mem_append.1 hk with hk | hk
    · have := List.find?_eq_none.1 hf k hk
      simpa using this
    · exact (h1 k hk).1
theorem fldsD_col (r hd : List Bt) : ∀ (ks : List (Int × Int)) (acc : List Fld), (∀ k ∈ ks, 0 ≤ k.1 ∧ k.1 < 40) → 0 ≤ (fldsD r hd acc ks).2.1 ∧ (fldsD r hd acc ks).2.1 < 40
  | [], acc, _ => ⟨Int.le_refl _, by show (0 : Int) < 40; decide⟩
  | (k, q) :: ks, acc, h => by
    have ih := fun acc => fldsD_col r hd ks acc (fun x hx => h x (List.mem_cons_of_mem _ hx))
    have h0 := h (k, q) List.mem_cons_self
    unfold fldsD
    (repeat' split) <;> first | exact ih _ | exact h0
theorem evE_col {r hd : List Bt} {m : Mp} (hok : MpOk m) : 0 ≤ (evE r hd m).2.1 ∧ (evE r hd m).2.1 < 40 := by
  have hD := fldsD_col r hd (m.data.zip m.kinds) [] (fun k hk => hok.data k.1 (List.of_mem_zip hk).1)
  have e0 : (0 : Int) ≤ 0 ∧ (0 : Int) < 40 := by decide
  have hE : ∀ res life t, 0 ≤ (evEnd r m res life t (fldsD r hd [] (m.data.zip m.kinds))).2.1 ∧ (evEnd r m res life t (fldsD r hd [] (m.data.zip m.kinds))).2.1 < 40 := fun res life t => by
    unfold evEnd
    split
    · exact e0
    · exact hD
  have hT : ∀ res life, 0 ≤ (evT r hd m res life).2.1 ∧ (evT r hd m res life).2.1 < 40 := fun res life => by
    unfold evT
    (repeat' split) <;> first | exact hE _ _ _ | exact hok.time | (dsimp only; exact hok.time)
  have hres := hok.res
  have hlife := hok.life
  have hL : ∀ res, 0 ≤ (evL r hd m res).2.1 ∧ (evL r hd m res).2.1 < 40 := fun res => by
    unfold evL
    (repeat' split) <;> first | exact hT _ _ | (dsimp only; omega)
  have hR : 0 ≤ (evR r hd m).2.1 ∧ (evR r hd m).2.1 < 40 := by
    unfold evR
    (repeat' split) <;> first | exact hL _ | (dsimp only; omega)
  unfold evE
  (repeat' split) <;> first | exact hR | exact hok.cas | exact hok.act
end Go.Proofs.YtoalecalahkblaaGreatDoor
