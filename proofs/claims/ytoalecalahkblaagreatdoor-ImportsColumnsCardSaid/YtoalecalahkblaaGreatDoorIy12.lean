/- Texts of this seat, merged. -/
import Derived.Outline
import Derived.Shelf.SlSortCmp.WholeK
import Derived.Shelf.SlSortCmp.NoneTotal
import Derived.Shelf.SlSortCmp.InsertionK
import Derived.Ground.SlsfProg
import Derived.Test.YtoalecalahkblaaGreatDoorProg
import Derived.Sort.LotA
import Derived.Sort.WalkA
import Derived.Test.YtoalecalahkblaaGreatDoorIy01
import Derived.Test.YtoalecalahkblaaGreatDoorIy02
import Derived.Test.YtoalecalahkblaaGreatDoorIy03
import Derived.Test.YtoalecalahkblaaGreatDoorIy05
import Derived.Test.YtoalecalahkblaaGreatDoorIy06
import Derived.Test.YtoalecalahkblaaGreatDoorIy07
set_option linter.all false
set_option linter.all false
namespace Go.Proofs.YtoalecalahkblaaGreatDoor
open Go.RowKit
def natE (s : Bt) : Int × Int :=
  if 15 < s.length then (0, 3)
  else match okOf (Lib.atoiAll s) with
    | none => (0, 3)
    | some n => if n < 0 ∨ Lib.itoa n ≠ s then (0, 3) else if 1099511627776 < n then (0, 2) else (n, 0)
def RetNat (p : Int × Int) (w : World) (e : Ending) (w' : World) : Prop := e = .returned (.tuple #[.int .i64 p.1, .int .i64 p.2]) ∧ Below w.heap.size w w'
theorem natE_fit (s : Bt) : 0 ≤ (natE s).1 ∧ (natE s).1 ≤ 1099511627776 := by
  unfold natE
  split
  · exact ⟨Int.le_refl _, by simp only; omega⟩
  · split
    · exact ⟨Int.le_refl _, by simp only; omega⟩
    · split
      · exact ⟨Int.le_refl _, by simp only; omega⟩
      · split
        · exact ⟨Int.le_refl _, by simp only; omega⟩
        · simp only; omega
theorem itoa_beq (n : Int) (s : ByteArray) : ((itoaS n).toList == s.toList) = decide (Lib.itoa n = s.data.toList) := by
  have h1 : (itoaS n).toList = Lib.itoa n := by rw [Lib.toList_data]; rfl
  have h2 : s.toList = s.data.toList := Lib.toList_data s
  rw [h1, h2]
  by_cases h : Lib.itoa n = s.data.toList
  · rw [decide_eq_true h, h]; exact beq_self_eq_true _
  · rw [decide_eq_false h]; exact beq_false_of_ne h
set_option maxHeartbeats 1000000 in
theorem natural_any (s : ByteArray) (w : World) (hs : s.size ≤ 1000000) (ha : AmbP w) : Calls Tryz.prog 99 #[.string s] w (RetNat (natE s.data.toList) w) := by
  have hlen : s.data.toList.length = s.size := by simp
  by_cases h15 : 15 < s.size
  · have i1 : (15 : Int) < (s.size : Int) := by omega
    have HE : Hid (natE s.data.toList = (0, 3)) := by show _ = _; unfold natE; rw [if_pos (by omega)]
    clear hlen h15
    go_enter Tryz.func99, Tryz.ntmps99
    go_wp2_with fail
    go_ret2
    show RetNat _ _ _ _
    rw [HE.out]
    exact ⟨rfl, Below.refl _ _⟩
  have i1 : ¬ (15 : Int) < (s.size : Int) := by omega
  have HE : Hid (natE s.data.toList = match okOf (Lib.atoiAll s.data.toList) with
    | none => (0, 3)
    | some n => if n < 0 ∨ Lib.itoa n ≠ s.data.toList then (0, 3) else if 1099511627776 < n then (0, 2) else (n, 0)) := by
    show _ = _
    unfold natE
    rw [if_neg (by omega)]
  clear hlen h15
  go_enter Tryz.func99, Tryz.ntmps99
  go_wp2_with fail
  refine (atoi_call s _ hs ha).mono ?_
  rintro e w1 ⟨h, hb1⟩
  have ha1 := ha.now hb1
  rcases h with ⟨n, hn, hf, rfl⟩ | ⟨hn, z, N, rfl⟩
  · rw [hn] at HE
    have HE : Hid (natE s.data.toList = if n < 0 ∨ Lib.itoa n ≠ s.data.toList then (0, 3) else if 1099511627776 < n then (0, 2) else (n, 0)) := HE
    by_cases h0 : n < 0
    · have HN : Hid (natE s.data.toList = (0, 3)) := by show _ = _; rw [HE.out, if_pos (.inl h0)]
      clear hn HE
      go_wp2_with fail
      go_ret2
      show RetNat _ _ _ _
      rw [HN.out]
      exact ⟨rfl, hb1⟩
    · have HI := Lib.hid (itoa_any n _ hf ha1)
      have HF := Lib.hid hf
      have hq := itoa_beq n s
      obtain ⟨q, hqq⟩ : ∃ q, ((itoaS n).toList == s.toList) = q := ⟨_, rfl⟩
      rw [hqq] at hq
      have HQ := Lib.hid hq
      have e1 : ((itoaS n).toList != s.toList) = !q := by show (!((itoaS n).toList == s.toList)) = _; rw [hqq]
      clear hn hf hq
      cases q with
      | false =>
        have HN : Hid (natE s.data.toList = (0, 3)) := by show _ = _; rw [HE.out, if_pos (.inr (of_decide_eq_false HQ.out.symm))]
        clear HE
        go_wp2_with fail
        refine HI.out.mono ?_
        rintro e w2 ⟨rfl, hb2⟩
        clear HI
        go_wp2_with fail
        go_ret2
        show RetNat _ _ _ _
        rw [HN.out]
        exact ⟨rfl, bthen hb1 hb2⟩
      | true =>
        have HE2 : Hid (natE s.data.toList = if 1099511627776 < n then (0, 2) else (n, 0)) := by show _ = _; rw [HE.out, if_neg (by rintro (h | h); exact h0 h; exact h (of_decide_eq_true HQ.out.symm))]
        clear HE
        by_cases hbig : 1099511627776 < n
        · have HN : Hid (natE s.data.toList = (0, 2)) := by show _ = _; rw [HE2.out, if_pos hbig]
          go_wp2_with fail
          refine HI.out.mono ?_
          rintro e w2 ⟨rfl, hb2⟩
          clear HI
          go_wp2_with fail
          go_ret2
          show RetNat _ _ _ _
          rw [HN.out]
          exact ⟨rfl, bthen hb1 hb2⟩
        · have HN : Hid (natE s.data.toList = (n, 0)) := by show _ = _; rw [HE2.out, if_neg hbig]
          go_wp2_with fail
          refine HI.out.mono ?_
          rintro e w2 ⟨rfl, hb2⟩
          clear HI
          go_wp2_with fail
          go_ret2
          show RetNat _ _ _ _
          rw [HN.out]
          exact ⟨rfl, bthen hb1 hb2⟩
  · rw [hn] at HE
    have HN : Hid (natE s.data.toList = (0, 3)) := HE
    clear hn HE
    go_wp2_with fail
    go_ret2
    show RetNat _ _ _ _
    rw [HN.out]
    exact ⟨rfl, hb1⟩
end Go.Proofs.YtoalecalahkblaaGreatDoor

set_option linter.all false
namespace Go.Proofs
open Go.Shelf
def Tryz.sortE_ren : Go.Shelf.Ren := ⟨fun | 6 => 101 | 15 => 146 | 14 => 145 | 28 => 177 | 29 => 178 | 20 => 169 | 21 => 170 | 22 => 171 | 23 => 172 | 24 => 173 | 25 => 174 | 26 => 175 | 27 => 176 | 46 => 209 | 47 => 210 | 48 => 211 | 49 => 212 | 50 => 213 | 57 => 229 | n => n, fun | 22 => 67 | 24 => 123 | 25 => 141 | 3 => 3 | 39 => 172 | 0 => 0 | 53 => 190 | 55 => 192 | 4 => 4 | 46 => 183 | 45 => 182 | 50 => 187 | 5 => 5 | 9 => 9 | 66 => 215 | 70 => 219 | 76 => 236 | 77 => 148 | n => n, fun | n => n⟩
theorem Tryz.sortE : Go.Proofs.SlLaysF0.n6 Tryz.prog Tryz.sortE_ren := {
  mixed := by kernel_rfl
  f6 := ⟨Tryz.f101.name, by decide, Tryz.func101.trans (congrArg some (by kernel_rfl))⟩
  f14 := ⟨Tryz.f145.name, by decide, Tryz.func145.trans (congrArg some (by kernel_rfl))⟩
  f15 := Tryz.func146.trans (congrArg some (by kernel_rfl))
  f20 := ⟨Tryz.f169.name, by decide, Tryz.func169.trans (congrArg some (by kernel_rfl))⟩
  f21 := ⟨Tryz.f170.name, by decide, Tryz.func170.trans (congrArg some (by kernel_rfl))⟩
  f22 := ⟨Tryz.f171.name, by decide, Tryz.func171.trans (congrArg some (by kernel_rfl))⟩
  f23 := ⟨Tryz.f172.name, by decide, Tryz.func172.trans (congrArg some (by kernel_rfl))⟩
  f24 := ⟨Tryz.f173.name, by decide, Tryz.func173.trans (congrArg some (by kernel_rfl))⟩
  f25 := ⟨Tryz.f174.name, by decide, Tryz.func174.trans (congrArg some (by kernel_rfl))⟩
  f26 := ⟨Tryz.f175.name, by decide, Tryz.func175.trans (congrArg some (by kernel_rfl))⟩
  f27 := ⟨Tryz.f176.name, by decide, Tryz.func176.trans (congrArg some (by kernel_rfl))⟩
  f28 := Tryz.func177.trans (congrArg some (by kernel_rfl))
  f29 := Tryz.func178.trans (congrArg some (by kernel_rfl))
  f46 := ⟨Tryz.f209.name, by decide, Tryz.func209.trans (congrArg some (by kernel_rfl))⟩
  f47 := Tryz.func210.trans (congrArg some (by kernel_rfl))
  f48 := Tryz.func211.trans (congrArg some (by kernel_rfl))
  f49 := ⟨Tryz.f212.name, by decide, Tryz.func212.trans (congrArg some (by kernel_rfl))⟩
  f50 := ⟨Tryz.f213.name, by decide, Tryz.func213.trans (congrArg some (by kernel_rfl))⟩
  f57 := ⟨Tryz.f229.name, by decide, Tryz.func229.trans (congrArg some (by kernel_rfl))⟩
  t0 := Tryz.underlying0
  a0 := Tryz.isAgg0
  z0 := Tryz.sizeOf0
  v0 := Tryz.zeroValue0
  t3 := Tryz.underlying3
  a3 := Tryz.isAgg3
  z3 := Tryz.sizeOf3
  v3 := Tryz.zeroValue3
  t4 := Tryz.underlying4
  a4 := Tryz.isAgg4
  z4 := Tryz.sizeOf4
  v4 := Tryz.zeroValue4
  t5 := Tryz.underlying5
  a5 := Tryz.isAgg5
  z5 := Tryz.sizeOf5
  v5 := Tryz.zeroValue5
  t9 := Tryz.underlying9
  a9 := Tryz.isAgg9
  z9 := Tryz.sizeOf9
  v9 := Tryz.zeroValue9
  t22 := Tryz.underlying67
  a22 := Tryz.isAgg67
  z22 := Tryz.sizeOf67
  v22 := Tryz.zeroValue67
  t25 := Tryz.underlying141
  a25 := Tryz.isAgg141
  z25 := Tryz.sizeOf141
  v25 := Tryz.zeroValue141
  t39 := Tryz.underlying172
  a39 := Tryz.isAgg172
  z39 := Tryz.sizeOf172
  v39 := Tryz.zeroValue172
  t45 := Tryz.underlying182
  a45 := Tryz.isAgg182
  z45 := Tryz.sizeOf182
  v45 := Tryz.zeroValue182
  t46 := Tryz.underlying183
  a46 := Tryz.isAgg183
  z46 := Tryz.sizeOf183
  v46 := Tryz.zeroValue183
  t50 := Tryz.underlying187
  a50 := Tryz.isAgg187
  z50 := Tryz.sizeOf187
  v50 := Tryz.zeroValue187
  t53 := Tryz.underlying190
  a53 := Tryz.isAgg190
  z53 := Tryz.sizeOf190
  v53 := Tryz.zeroValue190
  t55 := Tryz.underlying192
  a55 := Tryz.isAgg192
  z55 := Tryz.sizeOf192
  v55 := Tryz.zeroValue192
  t66 := Tryz.underlying215
  a66 := Tryz.isAgg215
  z66 := Tryz.sizeOf215
  v66 := Tryz.zeroValue215
  t70 := Tryz.underlying219
  a70 := Tryz.isAgg219
  z70 := Tryz.sizeOf219
  v70 := Tryz.zeroValue219
  t76 := Tryz.underlying236
  a76 := Tryz.isAgg236
  z76 := Tryz.sizeOf236
  v76 := Tryz.zeroValue236
  t77 := Tryz.underlying148
  a77 := Tryz.isAgg148
  z77 := Tryz.sizeOf148
  v77 := Tryz.zeroValue148 }
def Tryz.insE_ren : Go.Shelf.Ren := ⟨fun | 20 => 148 | n => n, fun | 24 => 69 | 22 => 36 | 3 => 3 | 25 => 92 | 4 => 4 | 0 => 0 | n => n, fun | n => n⟩
theorem Tryz.insE : Go.Proofs.SlLaysF0.n20 Tryz.prog Tryz.insE_ren := {
  mixed := by kernel_rfl
  f20 := ⟨Tryz.f148.name, by decide, Tryz.func148.trans (congrArg some (by kernel_rfl))⟩
  t0 := Tryz.underlying0
  a0 := Tryz.isAgg0
  z0 := Tryz.sizeOf0
  v0 := Tryz.zeroValue0
  t3 := Tryz.underlying3
  a3 := Tryz.isAgg3
  z3 := Tryz.sizeOf3
  v3 := Tryz.zeroValue3
  t4 := Tryz.underlying4
  a4 := Tryz.isAgg4
  z4 := Tryz.sizeOf4
  v4 := Tryz.zeroValue4
  t22 := Tryz.underlying36
  a22 := Tryz.isAgg36
  z22 := Tryz.sizeOf36
  v22 := Tryz.zeroValue36
  t25 := Tryz.underlying92
  a25 := Tryz.isAgg92
  z25 := Tryz.sizeOf92
  v25 := Tryz.zeroValue92 }
end Go.Proofs

set_option linter.all false
namespace Go.Proofs.YtoalecalahkblaaGreatDoor
open Go.RowKit
section
variable {α : Type} (lt : α → α → Bool)
def mg : List α → List α → List α
  | [], Y => Y
  | x :: X, [] => x :: X
  | x :: X, y :: Y => if lt y x = true then y :: mg (x :: X) Y else x :: mg X (y :: Y)
termination_by X Y => X.length + Y.length
theorem mg_nil (Y : List α) : mg lt [] Y = Y := by rw [mg]
theorem mg_none (X : List α) : mg lt X [] = X := by cases X <;> rw [mg]
theorem mg_cons (x y : α) (X Y : List α) : mg lt (x :: X) (y :: Y) = if lt y x = true then y :: mg lt (x :: X) Y else x :: mg lt X (y :: Y) := by rw [mg]
theorem mg_perm : ∀ (n : Nat) (X Y : List α), X.length + Y.length = n → (mg lt X Y).Perm (X ++ Y)
  | n, [], Y, _ => by rw [mg_nil]; exact List.Perm.refl _
  | n, x :: X, [], _ => by rw [mg_none, List.append_nil]
  | 0, x :: X, y :: Y, h => by simp at h
  | n + 1, x :: X, y :: Y, h => by
    rw [mg_cons]
    split
    · have ih := mg_perm n (x :: X) Y (by simp only [List.length_cons] at h ⊢; omega)
      exact (ih.cons y).trans List.perm_middle.symm
    · have ih := mg_perm n X (y :: Y) (by simp only [List.length_cons] at h ⊢; omega)
      exact ih.cons x
theorem mg_split : ∀ (n : Nat) (X1 X2 Y1 Y2 : List α), X1.length + Y1.length = n → (∀ x ∈ X1, ∀ y ∈ Y2, lt y x = false) → (∀ y ∈ Y1, ∀ x ∈ X2, lt y x = true) → mg lt (X1 ++ X2) (Y1 ++ Y2) = mg lt X1 Y1 ++ mg lt X2 Y2
  | n, [], X2, [], Y2, _, _, _ => by rw [mg_nil, List.nil_append, List.nil_append, List.nil_append]
  | 0, x :: X1, _, _, _, h, _, _ => by simp at h
  | 0, [], _, y :: Y1, _, h, _, _ => by simp at h
  | n + 1, [], X2, y :: Y1, Y2, h, h1, h2 => by
    have ih := mg_split n [] X2 Y1 Y2 (by simp only [List.length_cons] at h; simpa using h) (by simp) (fun z hz => h2 z (List.mem_cons_of_mem _ hz))
    rw [mg_nil] at ih ⊢
    rw [List.nil_append] at ih ⊢
    cases X2 with
    | nil => rw [mg_nil, mg_nil]
    | cons x X2 =>
      rw [List.cons_append, mg_cons, if_pos (h2 y List.mem_cons_self x List.mem_cons_self), ih]; rfl
  | n + 1, x :: X1, X2, [], Y2, h, h1, h2 => by
    have ih := mg_split n X1 X2 [] Y2 (by simp only [List.length_cons, List.length_nil] at h ⊢; omega) (fun z hz => h1 z (List.mem_cons_of_mem _ hz)) (by simp)
    rw [mg_none] at ih ⊢
    rw [List.nil_append] at ih ⊢
    cases Y2 with
    | nil => rw [mg_none, mg_none]
    | cons y Y2 =>
      rw [List.cons_append, mg_cons, if_neg (by rw [h1 x List.mem_cons_self y List.mem_cons_self]; decide), ih]; rfl
  | n + 1, x :: X1, X2, y :: Y1, Y2, h, h1, h2 => by
    rw [List.cons_append, List.cons_append, mg_cons, mg_cons]
    by_cases hl : lt y x = true
    · rw [if_pos hl, if_pos hl]
      have ih := mg_split n (x :: X1) X2 Y1 Y2 (by simp only [List.length_cons] at h ⊢; omega) h1 (fun z hz => h2 z (List.mem_cons_of_mem _ hz))
      rw [List.cons_append] at ih
      rw [ih]; rfl
    · rw [if_neg hl, if_neg hl]
      have ih := mg_split n X1 X2 (y :: Y1) Y2 (by simp only [List.length_cons] at h ⊢; omega) (fun z hz => h1 z (List.mem_cons_of_mem _ hz)) h2
      rw [List.cons_append] at ih
      rw [ih]; rfl
theorem mg_last {y : α} {X1 X2 : List α} (h1 : ∀ x ∈ X1, lt y x = false) (h2 : ∀ x ∈ X2, lt y x = true) : mg lt (X1 ++ X2) [y] = X1 ++ y :: X2 := by
  have h := mg_split lt _ X1 X2 [] [y] rfl (fun x hx z hz => by simp at hz; subst hz; exact h1 x hx) (by simp)
  rw [List.nil_append, mg_none] at h
  rw [h]
  congr 1
  cases X2 with
  | nil => rw [mg_nil]
  | cons x X2 => rw [mg_cons, if_pos (h2 x List.mem_cons_self), mg_none]
end
end Go.Proofs.YtoalecalahkblaaGreatDoor

set_option linter.all false
namespace Go.Proofs.YtoalecalahkblaaGreatDoor
open Go.RowKit
section
variable {α : Type} {lt : α → α → Bool} (hO : Go.Sort.SWO lt)
include hO
theorem mg_assoc : ∀ (n : Nat) (X Y Z : List α), X.length + Y.length + Z.length = n → mg lt (mg lt X Y) Z = mg lt X (mg lt Y Z)
  | n, [], Y, Z, _ => by rw [mg_nil, mg_nil]
  | n, x :: X, [], Z, _ => by rw [mg_none, mg_nil]
  | n, x :: X, y :: Y, [], _ => by rw [mg_none, mg_none]
  | 0, x :: X, y :: Y, z :: Z, h => by simp at h
  | n + 1, x :: X, y :: Y, z :: Z, h => by
    simp only [List.length_cons] at h
    have i1 := mg_assoc n X (y :: Y) (z :: Z) (by simp only [List.length_cons]; omega)
    have i2 := mg_assoc n (x :: X) Y (z :: Z) (by simp only [List.length_cons]; omega)
    have i3 := mg_assoc n (x :: X) (y :: Y) Z (by simp only [List.length_cons]; omega)
    by_cases a : lt y x = true
    · rw [mg_cons (lt := lt) x y X Y, if_pos a, mg_cons]
      by_cases b : lt z y = true
      · have c : lt z x = true := hO.trans _ _ _ b a
        rw [if_pos b, mg_cons (lt := lt) y z Y Z, if_pos b, mg_cons, if_pos c, ← i3, mg_cons (lt := lt) x y X Y, if_pos a]
      · rw [if_neg b, mg_cons (lt := lt) y z Y Z, if_neg b, mg_cons, if_pos a, ← i2]
    · rw [mg_cons (lt := lt) x y X Y, if_neg a, mg_cons]
      by_cases c : lt z x = true
      · have b : lt z y = true := by
          by_cases b : lt z y = true
          · exact b
          · have := hO.ntrans z y x (by simpa using b) (by simpa using a)
            rw [c] at this; cases this
        rw [if_pos c, mg_cons (lt := lt) y z Y Z, if_pos b, mg_cons, if_pos c, ← i3, mg_cons (lt := lt) x y X Y, if_neg a]
      · rw [if_neg c]
        by_cases b : lt z y = true
        · rw [mg_cons (lt := lt) y z Y Z, if_pos b, mg_cons, if_neg c, i1, mg_cons (lt := lt) y z Y Z, if_pos b]
        · rw [mg_cons (lt := lt) y z Y Z, if_neg b, mg_cons, if_neg a, i1, mg_cons (lt := lt) y z Y Z, if_neg b]
end
section
variable {α : Type} (lt : α → α → Bool)
def insL (X : List α) (y : α) : List α := mg lt X [y]
def sortS (l : List α) : List α := l.foldl (insL lt) []
theorem sortS_from {lt : α → α → Bool} (hO : Go.Sort.SWO lt) : ∀ (l X : List α), l.foldl (insL lt) X = mg lt X (l.foldl (insL lt) [])
  | [], X => by rw [List.foldl_nil, List.foldl_nil, mg_none]
  | y :: l, X => by
    rw [List.foldl_cons, List.foldl_cons, sortS_from hO l (insL lt X y), sortS_from hO l (insL lt [] y)]
    unfold insL
    rw [mg_nil, mg_assoc hO _ X [y] _ rfl]
theorem sortS_append {lt : α → α → Bool} (hO : Go.Sort.SWO lt) (a b : List α) : sortS lt (a ++ b) = mg lt (sortS lt a) (sortS lt b) := by
  unfold sortS
  rw [List.foldl_append, sortS_from hO b]
def AscM (l : List α) : Prop := l.Pairwise fun x y => lt y x = false
theorem sm_split {lt : α → α → Bool} (hO : Go.Sort.SWO lt) {X1 X2 Y1 Y2 : List α} (hX : AscM lt (X1 ++ X2)) (hY : AscM lt (Y1 ++ Y2))
    (h1 : ∀ x y, X1.getLast? = some x → Y2.head? = some y → lt y x = false) (h2 : ∀ x y, Y1.getLast? = some y → X2.head? = some x → lt y x = true) :
    mg lt (X1 ++ X2) (Y1 ++ Y2) = mg lt X1 Y1 ++ mg lt X2 Y2 := by
  have last : ∀ (A : List α) (z : α), AscM lt A → z ∈ A → ∃ l, A.getLast? = some l ∧ lt l z = false := fun A z hA hz => by
    have hne : A ≠ [] := by rintro rfl; simp at hz
    refine ⟨A.getLast hne, List.getLast?_eq_some_getLast hne, ?_⟩
    obtain ⟨i, hi, rfl⟩ := List.mem_iff_getElem.1 hz
    rw [List.getLast_eq_getElem]
    by_cases e : i = A.length - 1
    · subst e; exact hO.irrefl _
    · exact List.pairwise_iff_getElem.1 hA i (A.length - 1) hi (by omega) (by omega)
  have first : ∀ (A : List α) (z : α), AscM lt A → z ∈ A → ∃ f, A.head? = some f ∧ lt z f = false := fun A z hA hz => by
    cases A with
    | nil => simp at hz
    | cons f A =>
      refine ⟨f, rfl, ?_⟩
      rcases List.mem_cons.1 hz with rfl | hz
      · exact hO.irrefl _
      · exact List.rel_of_pairwise_cons hA hz
  have aX1 : AscM lt X1 := (List.pairwise_append.1 hX).1
  have aX2 : AscM lt X2 := (List.pairwise_append.1 hX).2.1
  have aY1 : AscM lt Y1 := (List.pairwise_append.1 hY).1
  have aY2 : AscM lt Y2 := (List.pairwise_append.1 hY).2.1
  refine mg_split lt _ X1 X2 Y1 Y2 rfl (fun x hx y hy => ?_) (fun y hy x hx => ?_)
  · obtain ⟨l, hl, e1⟩ := last X1 x aX1 hx
    obtain ⟨f, hf, e2⟩ := first Y2 y aY2 hy
    exact hO.ntrans _ _ _ (hO.ntrans _ _ _ e2 (h1 l f hl hf)) e1
  · obtain ⟨l, hl, e1⟩ := last Y1 y aY1 hy
    obtain ⟨f, hf, e2⟩ := first X2 x aX2 hx
    have h := h2 f l hl hf
    by_cases e : lt y x = true
    · exact e
    · have := hO.ntrans _ _ _ (hO.ntrans _ _ _ e1 (by simpa using e)) e2
      rw [h] at this; cases this
end
end Go.Proofs.YtoalecalahkblaaGreatDoor

set_option linter.all false
namespace Go.Proofs.YtoalecalahkblaaGreatDoor
open Go.RowKit
section
variable {α : Type} [Inhabited α]
theorem at_mid (A B : List α) (x : α) : ((A ++ x :: B).toArray)[A.length]! = x := by
  rw [getElem!_pos _ _ (by simp)]
  simp
theorem swp_adj (A B : List α) (x y : α) : Go.Sort.swp (A ++ x :: y :: B).toArray (A.length + 1) A.length = (A ++ y :: x :: B).toArray := by
  have h1 := at_mid A (y :: B) x
  have h2 := at_mid (A ++ [x]) B y
  rw [List.length_append, List.length_singleton, List.append_assoc] at h2
  have h2 : ((A ++ x :: y :: B).toArray)[A.length + 1]! = y := h2
  unfold Go.Sort.swp
  rw [h1, h2]
  apply Array.ext'
  simp [List.set_append]
variable {lt : α → α → Bool}
theorem insInner_list (hO : Go.Sort.SWO lt) (P : List α) (y : α) (S : List α) : ∀ (n : Nat) (X : List α), X.length = n → AscM lt X → Go.Sort.insInner lt P.length (P.length + X.length) (P ++ X ++ y :: S).toArray = (P ++ mg lt X [y] ++ S).toArray
  | 0, X, hn, _ => by
    have : X = [] := List.eq_nil_of_length_eq_zero hn
    subst this
    rw [Go.Proofs.insInner_stop lt _ _ _ (.inl (by simp)), mg_nil]; simp
  | n + 1, X, hn, hX => by
    obtain ⟨X', x, rfl⟩ : ∃ X' x, X = X' ++ [x] := ⟨X.dropLast, X.getLast (by rintro rfl; simp at hn), (List.dropLast_concat_getLast _).symm⟩
    rw [List.length_append, List.length_singleton] at hn
    have e : P ++ (X' ++ [x]) ++ y :: S = (P ++ X') ++ x :: y :: S := by simp
    have hx := at_mid (P ++ X') (y :: S) x
    have hy := at_mid (P ++ X' ++ [x]) S y
    rw [List.length_append] at hx
    rw [List.length_append, List.length_append, List.length_singleton, List.append_assoc (P ++ X')] at hy
    have hy : ((P ++ X') ++ x :: y :: S).toArray[P.length + X'.length + 1]! = y := hy
    have hj : P.length + (X' ++ [x]).length = P.length + X'.length + 1 := by rw [List.length_append, List.length_singleton]; omega
    rw [e, hj]
    by_cases hl : lt y x = true
    · rw [Go.Proofs.insInner_go lt _ _ _ (by omega) (by rw [hy, Nat.add_sub_cancel, hx]; exact hl), Nat.add_sub_cancel]
      have hs := swp_adj (P ++ X') S x y
      rw [List.length_append] at hs
      rw [hs, insInner_list hO P y (x :: S) n X' (by omega) (List.pairwise_append.1 hX).1]
      have hm := mg_split lt _ X' [x] [y] [] rfl (by simp) (fun z hz w hw => by simp at hz hw; subst hz hw; exact hl)
      rw [List.append_nil] at hm
      rw [hm, mg_none]; simp
    · have hl' : lt y x = false := by simpa using hl
      rw [Go.Proofs.insInner_stop lt _ _ _ (.inr (by rw [hy, Nat.add_sub_cancel, hx]; exact hl'))]
      have hall : ∀ z ∈ X' ++ [x], lt y z = false := fun z hz => by
        rcases List.mem_append.1 hz with hz | hz
        · exact hO.ntrans _ _ _ hl' ((List.pairwise_append.1 hX).2.2 z hz x (by simp))
        · simp at hz; subst hz; exact hl'
      have hm := mg_split lt _ (X' ++ [x]) [] [] [y] rfl (fun z hz w hw => by simp at hw; subst hw; exact hall z hz) (by simp)
      rw [List.append_nil, List.nil_append] at hm
      rw [hm, mg_none, mg_nil]; simp
theorem asc_mg (hO : Go.Sort.SWO lt) : ∀ (n : Nat) (X Y : List α), X.length + Y.length = n → AscM lt X → AscM lt Y → AscM lt (mg lt X Y)
  | n, [], Y, _, _, hY => by rw [mg_nil]; exact hY
  | n, x :: X, [], _, hX, _ => by rw [mg_none]; exact hX
  | 0, x :: X, y :: Y, h, _, _ => by simp at h
  | n + 1, x :: X, y :: Y, h, hX, hY => by
    simp only [List.length_cons] at h
    rw [mg_cons]
    by_cases hl : lt y x = true
    · rw [if_pos hl]
      have hxy : lt x y = false := by
        by_cases e : lt x y = true
        · have := hO.trans _ _ _ hl e
          rw [hO.irrefl] at this; cases this
        · simpa using e
      refine List.Pairwise.cons (fun z hz => ?_) (asc_mg hO n (x :: X) Y (by simp only [List.length_cons]; omega) hX (List.Pairwise.of_cons hY))
      rcases List.mem_append.1 ((mg_perm lt _ (x :: X) Y rfl).mem_iff.1 hz) with hz | hz
      · rcases List.mem_cons.1 hz with rfl | hz
        · exact hxy
        · exact hO.ntrans _ _ _ (List.rel_of_pairwise_cons hX hz) hxy
      · exact List.rel_of_pairwise_cons hY hz
    · rw [if_neg hl]
      refine List.Pairwise.cons (fun z hz => ?_) (asc_mg hO n X (y :: Y) (by simp only [List.length_cons]; omega) (List.Pairwise.of_cons hX) hY)
      rcases List.mem_append.1 ((mg_perm lt _ X (y :: Y) rfl).mem_iff.1 hz) with hz | hz
      · exact List.rel_of_pairwise_cons hX hz
      · have hl' : lt y x = false := by simpa using hl
        rcases List.mem_cons.1 hz with rfl | hz
        · exact hl'
        · exact hO.ntrans _ _ _ (List.rel_of_pairwise_cons hY hz) hl'
theorem insOuter_list (hO : Go.Sort.SWO lt) (P S : List α) : ∀ (B A : List α), AscM lt A → Go.Sort.insOuter lt P.length (P.length + A.length + B.length) (P.length + A.length) (P ++ A ++ B ++ S).toArray = (P ++ B.foldl (insL lt) A ++ S).toArray
  | [], A, _ => by rw [Go.Proofs.insOuter_stop lt _ _ _ _ (by simp)]; simp
  | y :: B, A, hA => by
    rw [Go.Proofs.insOuter_go lt _ _ _ _ (by rw [List.length_cons]; omega)]
    have e : P ++ A ++ (y :: B) ++ S = P ++ A ++ y :: (B ++ S) := by simp
    rw [e, insInner_list hO P y (B ++ S) _ A rfl hA]
    have hl : (mg lt A [y]).length = A.length + 1 := by rw [(mg_perm lt _ A [y] rfl).length_eq]; simp
    have ih := insOuter_list hO P S B (mg lt A [y]) (asc_mg hO _ A [y] rfl hA (by unfold AscM; simp))
    rw [hl] at ih
    rw [List.length_cons, show P.length + A.length + (B.length + 1) = P.length + (A.length + 1) + B.length by omega, show P.length + A.length + 1 = P.length + (A.length + 1) by omega]
    have e2 : P ++ mg lt A [y] ++ (B ++ S) = P ++ mg lt A [y] ++ B ++ S := by simp
    rw [e2, ih]; rfl
theorem asc_fold (hO : Go.Sort.SWO lt) : ∀ (B A : List α), AscM lt A → AscM lt (B.foldl (insL lt) A)
  | [], A, h => h
  | y :: B, A, h => asc_fold hO B (insL lt A y) (asc_mg hO _ A [y] rfl h (by unfold AscM; simp))
theorem asc_sortS (hO : Go.Sort.SWO lt) (l : List α) : AscM lt (sortS lt l) := asc_fold hO l [] List.Pairwise.nil
theorem perm_fold : ∀ (B A : List α), (B.foldl (insL lt) A).Perm (A ++ B)
  | [], A => by rw [List.append_nil]; exact List.Perm.refl _
  | y :: B, A => by
    refine (perm_fold B (insL lt A y)).trans ?_
    have h := (mg_perm lt _ A [y] rfl).append_right B
    rw [List.append_assoc] at h
    exact h
theorem perm_sortS (l : List α) : (sortS lt l).Perm l := perm_fold l []
theorem insertionSort_list (hO : Go.Sort.SWO lt) (P L S : List α) : Go.Sort.insertionSort lt (P ++ L ++ S).toArray P.length (P.length + L.length) = (P ++ sortS lt L ++ S).toArray := by
  unfold Go.Sort.insertionSort sortS
  cases L with
  | nil => rw [Go.Proofs.insOuter_stop lt _ _ _ _ (by simp)]; simp
  | cons x L =>
    have h := insOuter_list hO P S L [x] (by unfold AscM; simp)
    have e : P ++ [x] ++ L ++ S = P ++ (x :: L) ++ S := by simp
    rw [e, List.length_singleton] at h
    rw [List.length_cons, show P.length + (L.length + 1) = P.length + 1 + L.length by omega, h, List.foldl_cons]
    unfold insL
    rw [mg_nil]
end
end Go.Proofs.YtoalecalahkblaaGreatDoor

set_option linter.all false
namespace Go.Proofs.YtoalecalahkblaaGreatDoor
open Go.RowKit
theorem flatK_eq {α β : Type} [Inhabited α] {k : Nat} (enc : α → List Value) (fc : β → List Value) (val : α → β) (he : ∀ x, enc x = fc (val x)) (hk : ∀ x, (enc x).length = k) (d : Array α) : (Go.Sort.flatK enc k d).toList = flat fc (d.toList.map val) := by
  have hfe : flat fc (d.toList.map val) = flat enc d.toList := by
    unfold flat
    rw [List.flatMap_map]
    congr 1
    funext x; exact (he x).symm
  rw [hfe]
  have hl : (flat enc d.toList).length = d.size * k := by rw [flat_len hk, Array.length_toList]
  apply List.ext_getElem
  · rw [Array.length_toList, Go.Sort.size_flatK, hl]
  · intro i h1 h2
    have hi : i < d.size * k := by rw [← hl]; exact h2
    have hk0 : 0 < k := by
      rcases Nat.eq_zero_or_pos k with h | h
      · rw [h] at hi; omega
      · exact h
    have h3 := Go.Sort.get_flatK enc k d i hi
    have h1' : i < (Go.Sort.flatK enc k d).size := by simpa using h1
    rw [getElem!_pos _ i h1'] at h3
    have hid : i / k < d.size := Nat.div_lt_of_lt_mul (by rw [Nat.mul_comm]; exact hi)
    have him : i % k < k := Nat.mod_lt _ hk0
    rw [getElem!_pos d (i / k) hid, getElem!_pos _ (i % k) (by rw [hk]; exact him)] at h3
    have h4 := flat_get hk d.toList (i / k) (i % k) d[i / k] (by rw [Array.getElem?_toList, Array.getElem?_eq_getElem hid]) him
    have e : i / k * k + i % k = i := by rw [Nat.mul_comm]; exact Nat.div_add_mod i k
    rw [e, List.getElem?_eq_getElem h2, List.getElem?_eq_getElem (by rw [hk]; exact him)] at h4
    injection h4 with h4
    rw [Array.getElem_toList, h3, h4]
theorem grown_sorted {α : Type} [Inhabited α] (enc : α → List Value) (k : Nat) (w : World) (g n : Nat) (d : Array α) (os : Array Obj) : w.grownBy (Go.Proofs.sortWorldK enc k w g 0 n d os) (some g) := by
  refine ⟨rfl, rfl, rfl, by simp [Go.Proofs.sortWorldK, Go.Sort.putRowK], fun j hj hne => ?_⟩
  unfold Go.Proofs.sortWorldK Go.Sort.putRowK
  rw [Go.Sort.heap_grow_old _ _ (by simpa using hj)]
  have : g ≠ j := fun e => hne (by rw [e])
  simp [Go.Sort.putRow, Go.Sort.mapBlock, Go.Sort.ahead, Array.getElem?_modify, this]
theorem heap_sortedK {α : Type} [Inhabited α] (enc : α → List Value) (k : Nat) (w : World) (g n : Nat) (d : Array α) (os : Array Obj) {cur : Array Value} {e : TypeId} {fr : Nat × Nat} (hb : w.heap[g]? = some (.cells cur e fr)) :
    (Go.Proofs.sortWorldK enc k w g 0 n d os).heap[g]? = some (.cells (Go.Sort.putCells id 0 (Go.Sort.flatK enc k d) cur) e fr) := by
  have hg : g < w.heap.size := (Array.getElem?_eq_some_iff.1 hb).1
  unfold Go.Proofs.sortWorldK Go.Sort.putRowK
  rw [Go.Sort.heap_grow_old _ _ (by simpa using hg)]
  simp [Go.Sort.putRow, Go.Sort.mapBlock, Go.Sort.ahead, Array.getElem?_modify, hb, Go.Sort.onCells]
theorem take_put (cur F : Array Value) (h : F.size ≤ cur.size) : (Go.Sort.putCells id 0 F cur).toList.take F.size = F.toList := by
  apply List.ext_getElem?
  intro j
  by_cases hj : j < F.size
  · rw [List.getElem?_take_of_lt hj, Array.getElem?_toList]
    simp [Go.Sort.putCells, hj, show j < cur.size by omega]
  · rw [List.getElem?_take_eq_none (by omega), List.getElem?_eq_none (by simp; omega)]
def evC (e : Ev) : List Value := [.string e.cas, .string e.act, .string e.res, .int .i64 e.life, .int .i64 e.time, .slice none 0 0]
def tlt (x y : Ev) : Bool := decide (x.time < y.time)
theorem swo_tlt : Go.Sort.SWO tlt := by
  refine ⟨fun x => ?_, fun x y z => ?_, fun x y z => ?_⟩ <;> unfold tlt
  · simp
  · simp only [decide_eq_true_eq]; omega
  · simp only [decide_eq_false_iff_not]; omega
theorem ltOf_time : (Go.Proofs.ltOf fun x y : Ev => Lib.compareInt x.time y.time) = tlt := by
  funext x y
  unfold tlt
  show decide ((if x.time < y.time then (-1 : Int) else if x.time > y.time then 1 else 0) < 0) = _
  by_cases h : x.time < y.time
  · rw [if_pos h, decide_eq_true h]; rfl
  · rw [if_neg h, decide_eq_false h]
    by_cases h2 : x.time > y.time
    · rw [if_pos h2]; rfl
    · rw [if_neg h2]; rfl
theorem evCmp_any (x y : Ev) (W : World) :
    Calls Tryz.prog 56 #[.agg (evC x).toArray, .agg (evC y).toArray] W fun e w' => e = .returned (.int .i64 (Lib.compareInt x.time y.time)) ∧ ∃ q os', w' = Go.Sort.grow (W.drewN q) os' := by
  have hb1 := bone W (.cells (evC x).toArray 69)
  have hb2 := bone (W.alloc (.cells (evC x).toArray 69)) (.cells (evC y).toArray 69)
  unfold evC at hb1 hb2 ⊢
  have HX := Lib.hid ((Blk.new W 69 #[.string x.cas, .string x.act, .string x.res, .int .i64 x.life, .int .i64 x.time, .slice none 0 0]).now hb2)
  have HY := Lib.hid (Blk.new (W.alloc (.cells #[.string x.cas, .string x.act, .string x.res, .int .i64 x.life, .int .i64 x.time, .slice none 0 0] 69)) 69 #[.string y.cas, .string y.act, .string y.res, .int .i64 y.life, .int .i64 y.time, .slice none 0 0])
  have hsz1 : (W.alloc (.cells #[.string x.cas, .string x.act, .string x.res, .int .i64 x.life, .int .i64 x.time, .slice none 0 0] 69)).heap.size = W.heap.size + 1 := by simp
  rw [hsz1] at HY
  have HG : Hid (∃ q os', (W.alloc (.cells #[.string x.cas, .string x.act, .string x.res, .int .i64 x.life, .int .i64 x.time, .slice none 0 0] 69)).alloc (.cells #[.string y.cas, .string y.act, .string y.res, .int .i64 y.life, .int .i64 y.time, .slice none 0 0] 69) = Go.Sort.grow (W.drewN q) os') := Lib.hid ⟨0, _, by rw [Go.Sort.alloc_eq_grow, Go.Sort.alloc_eq_grow, Go.Sort.grow_grow]; rfl⟩
  have HC := Lib.hid (Tryz.cmp_Compare_int x.time y.time)
  clear hb1 hb2 hsz1
  go_enter Tryz.func56, Tryz.ntmps56
  go_upto_region 1 with fail
  obtain ⟨w2, hw2⟩ : ∃ w2, (W.alloc (.cells #[.string x.cas, .string x.act, .string x.res, .int .i64 x.life, .int .i64 x.time, .slice none 0 0] 69)).alloc (.cells #[.string y.cas, .string y.act, .string y.res, .int .i64 y.life, .int .i64 y.time, .slice none 0 0] 69) = w2 := ⟨_, rfl⟩
  rw [hw2] at HX HY HG ⊢
  clear hw2
  obtain ⟨a0, a1, a2, a3, a4, a5⟩ := HX.out.c6
  obtain ⟨b0, b1, b2, b3, b4, b5⟩ := HY.out.c6
  go_wp2_with fail
  (with_reducible refine (HC.out _).mono ?_)
  rintro e w' ⟨rfl, rfl⟩
  go_wp2_with fail
  go_ret
  exact ⟨rfl, HG.out⟩
theorem enters_evCmp : ∀ args w, (callFunc 56 args).run Tryz.prog w = .ok (.enter 56 args) w := enters_of Tryz.func56 (by kernel_rfl) rfl
theorem evC_one (e : Ev) : ∀ v ∈ evC e, v.oneCell' = true := fun v hv => by
  simp [evC] at hv
  rcases hv with rfl | rfl | rfl | rfl | rfl | rfl <;> rfl
def OwnE0 (w : World) (base : Nat) (v : Value) (L : List Ev) : Prop := OwnW 6 evC w base 69 v L
theorem insE_any {w : World} {base g cap : Nat} {L : List Ev} (ho : OwnE0 w base (.slice (some ⟨g, 0, none⟩) L.length cap) L) (h0 : 0 < L.length) (hl : L.length ≤ 1000000) :
    Calls Tryz.prog 148 #[.slice (some ⟨g, 0, none⟩) L.length cap, .int .i64 0, .int .i64 L.length, .func (.func 56) #[] #[]] w fun e w' => e = .returned (.tuple #[]) ∧ OwnE0 w' base (.slice (some ⟨g, 0, none⟩) L.length cap) (sortS tlt L) ∧ w.grownBy w' (some g) := by
  rcases ho.2 with ⟨_, h1⟩ | ⟨g', cap', cur, he, hb, hg, hc1, hc2, hc3, htk⟩
  · omega
  injection he with he1 _ he2
  injection he1 with he1
  injection he1 with he1 _ _
  subst he1 he2
  have hgl : g < w.heap.size := (Array.getElem?_eq_some_iff.1 hg).1
  haveI : Inhabited Ev := ⟨L[0]'h0⟩
  have hF : (Go.Sort.flatK evC 6 L.toArray).toList = flat evC L := by
    have := flatK_eq (k := 6) evC evC (fun x : Ev => x) (fun _ => rfl) (fun _ => rfl) L.toArray
    rw [this, List.map_id']
  have hfl : (flat evC L).length = L.length * 6 := flat_len (size := 6) (fun _ => rfl) L
  have hH : Go.Sort.HoldsK evC 6 w g 0 L.toArray := by
    intro j hj
    have hjs : j < L.length * 6 := by rw [← hfl, ← hF, Array.length_toList]; exact hj
    refine ⟨?_, by simp [World.frozen?, hg]⟩
    have h1 : (cur.toList.take (L.length * 6))[j]? = (flat evC L)[j]? := by rw [htk]
    rw [List.getElem?_take_of_lt (by omega), ← hF] at h1
    simp only [World.cell?, hg, Nat.zero_add, Option.isSome_none, Bool.false_eq_true, if_false]
    rw [← Array.getElem?_toList, h1, Array.getElem?_toList, Array.getElem?_eq_getElem hj, getElem!_pos _ j hj]; rfl
  have hcmp : Go.Proofs.CmpLays Tryz.prog 56 #[] evC 6 (fun x y : Ev => Lib.compareInt x.time y.time) g 0 L.toArray.size w := fun m os dk hdk x y => evCmp_any x y _
  have h := Go.Proofs.AnyQ.insertionSortCmpFunc Tryz.insE 6 Tryz.isAgg69 Tryz.sizeOf69 evC (fun _ => rfl) (fun x => evC_one x) (fun x y : Ev => Lib.compareInt x.time y.time) 56 #[] g 0 cap 0 L.length L.toArray w enters_evCmp hcmp hH hgl (Nat.zero_le _) (Nat.le_refl _) (by show L.length < _; omega)
  have hins : Go.Sort.insertionSort (Go.Proofs.ltOf fun x y : Ev => Lib.compareInt x.time y.time) L.toArray 0 L.length = (sortS tlt L).toArray := by
    rw [ltOf_time]
    have := insertionSort_list swo_tlt [] L []
    simpa using this
  rw [hins] at h
  have hsl : (sortS tlt L).length = L.length := (perm_sortS (lt := tlt) L).length_eq
  refine Calls.mono (show Calls Tryz.prog 148 #[.slice (some ⟨g, 0, none⟩) L.length cap, .int .i64 0, .int .i64 L.length, .func (.func 56) #[] #[]] w _ from h) fun e w' ⟨he, n, os, hw⟩ => ⟨he, ?_, by rw [hw]; exact grown_sorted evC 6 w g n _ os⟩
  obtain ⟨S, hS⟩ : ∃ S, sortS tlt L = S := ⟨_, rfl⟩
  rw [hS] at hsl hw ⊢
  have hF2 : (Go.Sort.flatK evC 6 S.toArray).toList = flat evC S := by
    have := flatK_eq (k := 6) evC evC (fun x : Ev => x) (fun _ => rfl) (fun _ => rfl) S.toArray
    rw [this, List.map_id']
  have hfl2 : (flat evC S).length = S.length * 6 := flat_len (size := 6) (fun _ => rfl) S
  rw [← hsl]
  refine ⟨hfl2, .inr ⟨g, cap, _, rfl, hb, by rw [hw]; exact heap_sortedK evC 6 w g n S.toArray os hg, by rw [hsl]; exact hc1, hc2, by simp [Go.Sort.putCells, hc3], ?_⟩⟩
  have e1 : S.length * 6 = (Go.Sort.flatK evC 6 S.toArray).size := by rw [Go.Sort.size_flatK]; rfl
  rw [e1, take_put cur _ (by rw [Go.Sort.size_flatK, hc3]; show S.length * 6 ≤ _; omega), hF2]
set_option maxHeartbeats 2000000 in
theorem stable_small {w : World} {base g cap : Nat} {L : List Ev} (ho : OwnE0 w base (.slice (some ⟨g, 0, none⟩) L.length cap) L) (h0 : 0 < L.length) (hl : L.length < 20) :
    Calls Tryz.prog 55 #[.slice (some ⟨g, 0, none⟩) L.length cap, .func (.func 56) #[] #[]] w fun e w' => e = .returned (.tuple #[]) ∧ OwnE0 w' base (.slice (some ⟨g, 0, none⟩) L.length cap) (sortS tlt L) ∧ w.grownBy w' (some g) := by
  have HI := Lib.hid (insE_any ho h0 (by omega))
  have i1 : ¬ (20 : Int) ≤ (L.length : Int) := by omega
  have i2 : ¬ (20 : Int) < (L.length : Int) := by omega
  obtain ⟨N, hN⟩ : ∃ N, L.length = N := ⟨_, rfl⟩
  rw [hN] at HI i1 i2 ⊢
  have HST : Hid (Calls Tryz.prog 104 #[.slice (some ⟨g, 0, none⟩) N cap, .int .i64 N, .func (.func 56) #[] #[]] w fun e w' => e = .returned (.tuple #[]) ∧ OwnE0 w' base (.slice (some ⟨g, 0, none⟩) N cap) (sortS tlt L) ∧ w.grownBy w' (some g)) := by
    show Calls _ _ _ _ _
    clear ho h0 hl hN
    go_enter Tryz.func104, Tryz.ntmps104
    go_wp2_with fail
    go_loopw [7, 8] (fun a b wr => a = .int .i64 0 ∧ b = .int .i64 20 ∧ w = wr) (fun _ _ _ => 0)
    case atStart => exact ⟨rfl, rfl, rfl⟩
    case round =>
      obtain ⟨rfl, rfl, rfl⟩ := hrel
      go_wp2_with fail
      (with_reducible refine HI.out.mono ?_)
      rintro e w1 ⟨rfl, ho1, hg1⟩
      have HO1 := Lib.hid ho1
      have HG1 := Lib.hid hg1
      clear ho1 hg1
      go_wp2_with fail
      go_loopw [6] (fun a wr => a = .int .i64 20 ∧ w1 = wr) (fun _ _ => 0)
      case atStart => exact ⟨rfl, rfl⟩
      case round =>
        obtain ⟨rfl, rfl⟩ := hrel
        go_wp2_with fail
        go_end0
        exact ⟨rfl, HO1.out, HG1.out⟩
  clear ho h0 hl hN HI i1 i2
  go_enter Tryz.func55, Tryz.ntmps55
  go_wp2_with fail
  (with_reducible refine HST.out.mono ?_)
  rintro e w1 ⟨rfl, ho1, hg1⟩
  have HO1 := Lib.hid ho1
  have HG1 := Lib.hid hg1
  clear ho1 hg1
  go_wp2_with fail
  go_end0
  exact ⟨rfl, HO1.out, HG1.out⟩
end Go.Proofs.YtoalecalahkblaaGreatDoor

set_option linter.all false
namespace Go.Proofs.YtoalecalahkblaaGreatDoor
open Go.RowKit
theorem SlP.cellAt {D : Nat → Prop} {w : World} {ls : List Bt} {A : Option Addr} {n c k : Nat} {l : Bt} (h : SlP D w (.slice A n c) ls) (hk : ls[k]? = some l) (hn : ls.length = n) :
    ∃ b o, A = some ⟨b, o, none⟩ ∧ D b ∧ l.length ≤ maxLen ∧ w.cell? ⟨b, o + k, none⟩ = some (.string (bsOf l)) := by
  obtain ⟨b, o, x, h1, h2, h3, h4, h5⟩ := SlP.at_ h (k := k) (by rw [← hn]; exact (List.getElem?_eq_some_iff.1 hk).1)
  rw [hk] at h3
  injection h3 with h3
  subst h3
  exact ⟨b, o, h1, h2, h4, h5⟩
abbrev ev0C : Array Value := #[.string ⟨#[]⟩, .string ⟨#[]⟩, .string ⟨#[]⟩, .int .i64 0, .int .i64 0, .slice none 0 0]
set_option maxHeartbeats 8000000 in
set_option maxRecDepth 100000 in
theorem event_plain (r hd : List Bt) (rv hv u : Value) (m : Mp) (w : World) (hr : SlP (Lt w.heap.size) w rv r) (h : IsMp (Lt w.heap.size) w u m) (hres : m.res = -1) (hlife : m.life = -1) (hdat : m.data = []) (i j k : Nat) (hci : m.cas = (i : Int)) (hcj : m.act = (j : Int)) (hck : m.time = (k : Int)) (a b t : Bt)
    (hri : r[i]? = some a) (hrj : r[j]? = some b) (hrk : r[k]? = some t) (hna : isNameB (bsOf a) = true) (hnb : isNameB (bsOf b) = true) (n : Int) (hnt : natE t = (n, 0)) (htl : t.length ≤ 1000000) (ha : AmbP w) :
    Calls Tryz.prog 54 #[rv, hv, u] w fun e w' => e = .returned (.tuple #[.agg #[.string (bsOf a), .string (bsOf b), .string ⟨#[]⟩, .int .i64 5, .int .i64 n, .slice none 0 0], .int .i64 0, .int .i64 0]) ∧ Below w.heap.size w w' := by
  obtain ⟨Ar, cr, rfl, _, _, hr⟩ := hr.open_
  obtain ⟨b0, o0, hA, hD0, hla, ca⟩ := hr.cellAt hri rfl
  obtain ⟨b1, o1, hA1, _, hlb, cb⟩ := hr.cellAt hrj rfl
  obtain ⟨b2, o2, hA2, _, hlt, ct⟩ := hr.cellAt hrk rfl
  subst hA
  injection hA1 with hA1
  injection hA1 with e1 e2 _
  subst e1 e2
  injection hA2 with hA2
  injection hA2 with e1 e2 _
  subst e1 e2
  have hil : i < r.length := (List.getElem?_eq_some_iff.1 hri).1
  have hjl : j < r.length := (List.getElem?_eq_some_iff.1 hrj).1
  have hkl : k < r.length := (List.getElem?_eq_some_iff.1 hrk).1
  have HIA : Hid (∀ W, Calls Tryz.prog 76 #[.string (bsOf a)] W fun e w' => e = .returned (.bool true) ∧ W = w') := fun W => by have := isName_any (bsOf a) W (by rw [bs_size]; exact hla); rwa [hna] at this
  have HIB : Hid (∀ W, Calls Tryz.prog 76 #[.string (bsOf b)] W fun e w' => e = .returned (.bool true) ∧ W = w') := fun W => by have := isName_any (bsOf b) W (by rw [bs_size]; exact hlb); rwa [hnb] at this
  have HN : Hid (∀ W, AmbP W → Calls Tryz.prog 99 #[.string (bsOf t)] W fun e w' => e = .returned (.tuple #[.int .i64 n, .int .i64 0]) ∧ Below W.heap.size W w') := fun W hW => by
    have := natural_any (bsOf t) W (by rw [bs_size]; exact htl) hW
    rw [show (bsOf t).data.toList = t from rfl, hnt] at this
    exact this
  have HAM := Lib.hid ha
  have HD0 : Hid (b0 < w.heap.size) := hD0
  obtain ⟨dv, kv, rfl, hfm, hd, hk⟩ := h
  obtain ⟨Ad, cd, rfl, _, _, hd⟩ := hd.open_
  obtain ⟨Ak, ck, rfl, _, _, hk⟩ := hk.open_
  have hdl : m.data.length = 0 := by rw [hdat]; rfl
  unfold mpV
  rw [hres, hlife, hci, hcj, hck, hdl]
  obtain ⟨z, hz⟩ : ∃ z, (m.sep.toNat : Int) = z := ⟨_, rfl⟩
  rw [hz]
  generalize m.kinds.length = kn
  generalize bsOf a = sa at *
  generalize bsOf b = sb at *
  generalize bsOf t = st at *
  clear hfm hd hk hz hdl hdat hres hlife hci hcj hck hr hri hrj hrk hna hnb hnt htl ha hla hlb hlt hD0
  -- the boxes
  have hb1 := bone w (.cells #[.int .i64 (i : Int), .int .i64 (j : Int), .int .i64 (-1), .int .i64 (-1), .int .i64 (k : Int), .slice Ad 0 cd, .slice Ak kn ck, .int .u8 z] 33)
  have hB1 := Blk.new w 33 #[.int .i64 (i : Int), .int .i64 (j : Int), .int .i64 (-1), .int .i64 (-1), .int .i64 (k : Int), .slice Ad 0 cd, .slice Ak kn ck, .int .u8 z]
  have hs1 : (w.alloc (.cells #[.int .i64 (i : Int), .int .i64 (j : Int), .int .i64 (-1), .int .i64 (-1), .int .i64 (k : Int), .slice Ad 0 cd, .slice Ak kn ck, .int .u8 z] 33)).heap.size = w.heap.size + 1 := by simp
  obtain ⟨w1, hw1⟩ : ∃ w1, w.alloc (.cells #[.int .i64 (i : Int), .int .i64 (j : Int), .int .i64 (-1), .int .i64 (-1), .int .i64 (k : Int), .slice Ad 0 cd, .slice Ak kn ck, .int .u8 z] 33) = w1 := ⟨_, rfl⟩
  rw [hw1] at hb1 hB1 hs1
  have hb2 := bone w1 (.cells ev0C 69)
  have hB2 := Blk.new w1 69 ev0C
  have hs2 : (w1.alloc (.cells ev0C 69)).heap.size = w.heap.size + 2 := by simp [hs1]
  rw [hs1] at hB2
  obtain ⟨w2, hw2⟩ : ∃ w2, w1.alloc (.cells ev0C 69) = w2 := ⟨_, rfl⟩
  rw [hw2] at hB2 hs2 hb2
  have HW : Hid ((w.alloc (.cells #[.int .i64 (i : Int), .int .i64 (j : Int), .int .i64 (-1), .int .i64 (-1), .int .i64 (k : Int), .slice Ad 0 cd, .slice Ak kn ck, .int .u8 z] 33)).alloc (.cells ev0C 69) = w2) := by show _ = _; rw [hw1, hw2]
  have HM2 := Lib.hid (hB1.now hb2)
  have HE2 := Lib.hid hB2
  have HBW2 := Lib.hid (bthen hb1 hb2)
  have HS2 := Lib.hid hs2
  clear hb1 hB1 hs1 hw1 hb2 hB2 hs2 hw2
  go_enter Tryz.func54, Tryz.ntmps54
  go_upto_region 1 with fail
  rw [HW.out]
  clear HW
  have HBA := Lib.hid (bone w2 (.cells ev0C 69))
  obtain ⟨c0, c1, c2, c3, c4, c5, c6, c7⟩ := HM2.out.c8m
  obtain ⟨d0, d1, d2, d3, d4, d5, d6, d7⟩ := (HM2.out.now HBA.out).c8m
  have x0 := (HBW2.out.cell (p := ⟨b0, o0 + i, none⟩) HD0.out).trans ca
  have x1 := (HBW2.out.cell (p := ⟨b0, o0 + j, none⟩) HD0.out).trans cb
  have hbl : b0 < w2.heap.size := by have := HD0.out; have := HBW2.out.size; omega
  have y0 := (HBA.out.cell (p := ⟨b0, o0 + i, none⟩) hbl).trans x0
  have y1 := (HBA.out.cell (p := ⟨b0, o0 + j, none⟩) hbl).trans x1
  have ii0 : (0 : Int) ≤ (i : Int) := by omega
  have ii1 : (i : Int) < (r.length : Int) := by omega
  have jj0 : (0 : Int) ≤ (j : Int) := by omega
  have jj1 : (j : Int) < (r.length : Int) := by omega
  unfold ev0C at d0 d1 d2 d3 d4 d5 d6 d7 y0 y1
  clear hbl
  go_region
  have HB3 : Hid (Below w2.heap.size w2 (w2.alloc (.cells #[.string sa, .string sb, .string ⟨#[]⟩, .int .i64 5, .int .i64 0, .slice none 0 0] 69)).drew) := (bone w2 _).drew
  have HE3 : Hid (Blk (w2.alloc (.cells #[.string sa, .string sb, .string ⟨#[]⟩, .int .i64 5, .int .i64 0, .slice none 0 0] 69)).drew w2.heap.size 69 #[.string sa, .string sb, .string ⟨#[]⟩, .int .i64 5, .int .i64 0, .slice none 0 0]) := (Blk.new w2 _ _).drew
  obtain ⟨w3, hw3⟩ : ∃ w3, (w2.alloc (.cells #[.string sa, .string sb, .string ⟨#[]⟩, .int .i64 5, .int .i64 0, .slice none 0 0] 69)).drew = w3 := ⟨_, rfl⟩
  rw [hw3] at HB3 HE3 ⊢
  have HM3 := Lib.hid (HM2.out.now HB3.out)
  have HR3 := Lib.hid (HE2.out.now HB3.out)
  have HBW3 := Lib.hid (bthen HBW2.out HB3.out)
  obtain ⟨E, hE⟩ : ∃ E, w2.heap.size = E := ⟨_, rfl⟩
  rw [hE] at HE3 HS2 ⊢
  rw [HS2.out] at hE
  have HEE := Lib.hid HS2.out
  have hEw : w.heap.size + 1 < E := by have := HS2.out; omega
  have HEW := Lib.hid hEw
  clear c0 c1 c2 c3 c4 c5 c6 c7 d0 d1 d2 d3 d4 d5 d6 d7 x0 x1 y0 y1 hw3 hE hEw HBA HM2 HE2 HBW2 HS2
  obtain ⟨c0, c1, c2, c3, c4, c5, c6, c7⟩ := HM3.out.c8m
  obtain ⟨e0, e1, e2, e3, e4, e5⟩ := HE3.out.c6
  have xt := (HBW3.out.cell (p := ⟨b0, o0 + k, none⟩) HD0.out).trans ct
  have kk0 : (0 : Int) ≤ (k : Int) := by omega
  have kk1 : (k : Int) < (r.length : Int) := by omega
  have HNW := Lib.hid (HN.out w3 (HAM.out.now HBW3.out))
  go_wp2_with (first
    | (go_at_call 76; (with_reducible refine (HIA.out _).mono ?_); rintro x w' ⟨rfl, rfl⟩)
    | (go_at_call 76; (with_reducible refine (HIB.out _).mono ?_); rintro x w' ⟨rfl, rfl⟩))
  (with_reducible refine HNW.out.mono ?_)
  rintro _ w4 ⟨rfl, hb4⟩
  have HM4 := Lib.hid (HM3.out.now hb4)
  have HE4 := Lib.hid (HE3.out.now hb4)
  have HR4 := Lib.hid (HR3.out.now hb4)
  have HBW4 := Lib.hid (bthen HBW3.out hb4)
  clear c0 c1 c2 c3 c4 c5 c6 c7 e0 e1 e2 e3 e4 e5 xt HM3 HE3 HR3 HBW3 HNW hb4
  obtain ⟨c0, c1, c2, c3, c4, c5, c6, c7⟩ := HM4.out.c8m
  obtain ⟨e0, e1, e2, e3, e4, e5⟩ := HE4.out.c6
  have f4 := HE4.out.frozen 4
  go_upto_region 19 with fail
  have HE5 : Hid (Blk (w4.setCell ⟨E, 4, none⟩ (.int .i64 n)) E 69 #[.string sa, .string sb, .string ⟨#[]⟩, .int .i64 5, .int .i64 n, .slice none 0 0]) := HE4.out.set_ 4 (.int .i64 n)
  have HM5 := Lib.hid (HM4.out.far (p := ⟨E, 4, none⟩) (show w.heap.size ≠ E by have := HEW.out; omega) (.int .i64 n))
  have HR5 := Lib.hid (HR4.out.far (p := ⟨E, 4, none⟩) (show w.heap.size + 1 ≠ E by have := HEW.out; omega) (.int .i64 n))
  have HBW5 := Lib.hid (HBW4.out.setCell (p := ⟨E, 4, none⟩) (show w.heap.size ≤ E by have := HEW.out; omega) (.int .i64 n))
  obtain ⟨w5, hw5⟩ : ∃ w5, w4.setCell ⟨E, 4, none⟩ (.int .i64 n) = w5 := ⟨_, rfl⟩
  rw [hw5] at HE5 HM5 HR5 HBW5 ⊢
  clear c0 c1 c2 c3 c4 c5 c6 c7 e0 e1 e2 e3 e4 e5 f4 hw5 HM4 HE4 HR4 HBW4
  obtain ⟨c0, c1, c2, c3, c4, c5, c6, c7⟩ := HM5.out.c8m
  obtain ⟨e0, e1, e2, e3, e4, e5⟩ := HE5.out.c6
  obtain ⟨r0, r1, r2, r3, r4, r5⟩ := HR5.out.c6
  have f0 := HR5.out.frozen 0
  have f1 := HR5.out.frozen 1
  have f2 := HR5.out.frozen 2
  have f3 := HR5.out.frozen 3
  have f4 := HR5.out.frozen 4
  have f5 := HR5.out.frozen 5
  have HSF := Lib.hid (show Calls Tryz.prog 101 #[.slice none 0 0, .func (.func 102) #[] #[]] w5 fun e w' => e = .returned (.tuple #[]) ∧ w' = w5 from Go.Proofs.AnyF.slices_SortFunc_none Tryz.sortE none 0 _ w5)
  go_wp2_with fail
  go_loopw [103] (fun iv wr => iv = .int .i64 0 ∧ w5 = wr) (fun _ _ => 0)
  case atStart => exact ⟨rfl, rfl⟩
  case round =>
    obtain ⟨rfl, rfl⟩ := hrel
    go_wp2_with fail
    (with_reducible refine HSF.out.mono ?_)
    rintro _ w6 ⟨rfl, rfl⟩
    go_wp2_with fail
    have hz : Blk ((((((w6.setCell ⟨w.heap.size + 1, 0, none⟩ (.string sa)).setCell ⟨w.heap.size + 1, 1, none⟩ (.string sb)).setCell ⟨w.heap.size + 1, 2, none⟩ (.string ⟨#[]⟩)).setCell ⟨w.heap.size + 1, 3, none⟩ (.int .i64 5)).setCell ⟨w.heap.size + 1, 4, none⟩ (.int .i64 n)).setCell ⟨w.heap.size + 1, 5, none⟩ (.slice none 0 0)) (w.heap.size + 1) 69 #[.string sa, .string sb, .string ⟨#[]⟩, .int .i64 5, .int .i64 n, .slice none 0 0] :=
      (((((HR5.out.set_ 0 (.string sa)).set_ 1 (.string sb)).set_ 2 (.string ⟨#[]⟩)).set_ 3 (.int .i64 5)).set_ 4 (.int .i64 n)).set_ 5 (.slice none 0 0)
    have hle : w.heap.size ≤ w.heap.size + 1 := by omega
    have hbz := (((((HBW5.out.setCell (p := ⟨w.heap.size + 1, 0, none⟩) hle (.string sa)).setCell (p := ⟨w.heap.size + 1, 1, none⟩) hle (.string sb)).setCell (p := ⟨w.heap.size + 1, 2, none⟩) hle (.string ⟨#[]⟩)).setCell (p := ⟨w.heap.size + 1, 3, none⟩) hle (.int .i64 5)).setCell (p := ⟨w.heap.size + 1, 4, none⟩) hle (.int .i64 n)).setCell (p := ⟨w.heap.size + 1, 5, none⟩) hle (.slice none 0 0)
    generalize (((((w6.setCell ⟨w.heap.size + 1, 0, none⟩ (.string sa)).setCell ⟨w.heap.size + 1, 1, none⟩ (.string sb)).setCell ⟨w.heap.size + 1, 2, none⟩ (.string ⟨#[]⟩)).setCell ⟨w.heap.size + 1, 3, none⟩ (.int .i64 5)).setCell ⟨w.heap.size + 1, 4, none⟩ (.int .i64 n)).setCell ⟨w.heap.size + 1, 5, none⟩ (.slice none 0 0) = wz at hz hbz ⊢
    obtain ⟨q0, q1, q2, q3, q4, q5⟩ := hz.c6
    refine bodyPost_ret (v := .tuple #[.agg #[.string sa, .string sb, .string ⟨#[]⟩, .int .i64 5, .int .i64 n, .slice none 0 0], .int .i64 0, .int .i64 0]) (by simp [results, Tryz.results54, go_sem, q0, q1, q2, q3, q4, q5]) rfl ?_
    exact ⟨rfl, hbz⟩
end Go.Proofs.YtoalecalahkblaaGreatDoor
