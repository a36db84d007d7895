/- Texts of this seat, merged. -/
import Derived.Test.YtoalecalahkblaaGreatDoorProg
import Derived.Deep.QuietTactic
import Derived.BigQuiet
import Derived.StillTailTactics
import Derived.RegionTactic
import Derived.Deep.CutRange
import Derived.Deep.CutBlock
import Derived.Laws.IdiomStrings
import Derived.Laws.BytesString
import Derived.Lib.AppendStr
import Derived.Lib.OwnKind
import Derived.Lib.OthersKept
import Derived.Lib.UnsafeStr
import Derived.Test.YtoalecalahkblaaGreatDoorIl01
import Derived.Test.YtoalecalahkblaaGreatDoorIl02
set_option linter.all false
set_option linter.all false
namespace Go.Proofs.YtoalecalahkblaaGreatDoor
open Go.RowKit
def writeE (sep : UInt8) (rows : List (List Bt)) : Bt × Int :=
  if isSep sep = false ∨ tableB rows = false then ([], 1)
  else if 2001 < rows.length then ([], 5)
  else if 16384 < (tableT sep rows).length then ([], 5)
  else (tableT sep rows, 0)
theorem tableT_append {sep : UInt8} : ∀ a b : List (List Bt), tableT sep (a ++ b) = tableT sep a ++ tableT sep b
  | [], _ => rfl
  | r :: a, b => by
    show rowT sep r ++ tableT sep (a ++ b) = (rowT sep r ++ tableT sep a) ++ tableT sep b
    rw [tableT_append a b, List.append_assoc]
theorem tableT_take {sep : UInt8} (rows : List (List Bt)) (i : Nat) : (tableT sep (rows.take i)).length ≤ (tableT sep rows).length := by
  have h := tableT_append (sep := sep) (rows.take i) (rows.drop i)
  rw [List.take_append_drop] at h
  rw [h, List.length_append]; omega
def tailT (sep : UInt8) (first : Bool) : List Bt → Bt
  | [] => []
  | b :: r => (if first then [] else [sep]) ++ cellT sep b ++ tailT sep false r
theorem tailT_false {sep : UInt8} : ∀ (b : Bt) (r : List Bt), tailT sep false (b :: r) = sep :: cellsT sep (b :: r)
  | b, [] => by simp [tailT, cellsT]
  | b, c :: r => by
    have ih := tailT_false (sep := sep) c r
    show [sep] ++ cellT sep b ++ tailT sep false (c :: r) = _
    rw [ih, cellsT_cons]; simp
theorem tailT_true {sep : UInt8} : ∀ r : List Bt, tailT sep true r = cellsT sep r
  | [] => rfl
  | [b] => by simp [tailT, cellsT]
  | b :: c :: r => by
    show [] ++ cellT sep b ++ tailT sep false (c :: r) = _
    rw [tailT_false, cellsT_cons]; simp
def refCellsW (sep : UInt8) : Bool → Bt → List Bt → Option Bt
  | _, s, [] => some s
  | first, s, b :: r =>
    let t := (if first then s else s ++ [sep]) ++ cellT sep b
    if 16384 < t.length then none else refCellsW sep false t r
def refRowsW (sep : UInt8) : Bt → List (List Bt) → Option Bt
  | s, [] => some s
  | s, r :: rows => match refCellsW sep true s r with
    | none => none
    | some t => refRowsW sep (t ++ [10]) rows
end Go.Proofs.YtoalecalahkblaaGreatDoor

set_option linter.all false
namespace Go.Proofs.YtoalecalahkblaaGreatDoor
open Go.RowKit
def advP (p : Int × Int) (c : UInt8) : Int × Int := if c = 10 then (p.1 + 1, 1) else (p.1, p.2 + 1)
def placeOf (t : Bt) : Int × Int := t.foldl advP (1, 1)
theorem placeOf_snoc (t : Bt) (c : UInt8) : placeOf (t ++ [c]) = advP (placeOf t) c := by
  unfold placeOf; rw [List.foldl_append]; rfl
theorem placeOf_bound : ∀ t : Bt, 1 ≤ (placeOf t).1 ∧ (placeOf t).1 ≤ t.length + 1 ∧ 1 ≤ (placeOf t).2 ∧ (placeOf t).2 ≤ t.length + 1 := by
  intro t
  have key : ∀ (n : Nat) (t : Bt), t.length = n → 1 ≤ (placeOf t).1 ∧ (placeOf t).1 ≤ t.length + 1 ∧ 1 ≤ (placeOf t).2 ∧ (placeOf t).2 ≤ t.length + 1 := by
    intro n
    induction n with
    | zero =>
      intro t h
      have : t = [] := List.length_eq_zero_iff.1 h
      subst this
      refine ⟨?_, ?_, ?_, ?_⟩ <;> simp [placeOf]
    | succ n ih =>
      intro t h
      have hne : t ≠ [] := by rintro rfl; simp at h
      have e : t = t.dropLast ++ [t.getLast hne] := (List.dropLast_concat_getLast hne).symm
      have hl : t.dropLast.length = n := by rw [List.length_dropLast, h]; rfl
      obtain ⟨i1, i2, i3, i4⟩ := ih _ hl
      have hp : placeOf t = advP (placeOf t.dropLast) (t.getLast hne) := by rw [← placeOf_snoc, ← e]
      rw [hp]
      unfold advP
      rw [hl] at i2 i4
      by_cases hc : t.getLast hne = 10
      · rw [if_pos hc]; refine ⟨?_, ?_, ?_, ?_⟩ <;> simp only <;> omega
      · rw [if_neg hc]; refine ⟨?_, ?_, ?_, ?_⟩ <;> simp only <;> omega
  exact key _ t rfl
def plAt (s : Bt) (i : Nat) : Int × Int := placeOf (s.take i)
theorem plAt_step {s : Bt} {i : Nat} (h : i < s.length) : plAt s (i + 1) = advP (plAt s i) s[i] := by
  unfold plAt
  rw [← placeOf_snoc, List.take_succ_eq_append_getElem h]
theorem plAt_bound (s : Bt) (i : Nat) : 1 ≤ (plAt s i).1 ∧ (plAt s i).1 ≤ s.length + 1 ∧ 1 ≤ (plAt s i).2 ∧ (plAt s i).2 ≤ s.length + 1 := by
  obtain ⟨a, b, c, d⟩ := placeOf_bound (s.take i)
  have : (s.take i).length ≤ s.length := by rw [List.length_take]; omega
  unfold plAt
  omega
def tabE (s : Bt) : TabR → List (List Bt) × (Int × Int) × Int
  | .ok rows => (rows, (0, 0), 0)
  | .bad rest e => ([], plAt s (s.length - rest.length), e)
def cellsE (sep : UInt8) (s : Bt) : List (List Bt) × (Int × Int) × Int :=
  if isSep sep = false then ([], (0, 0), 1)
  else if 16384 < s.length then ([], (0, 0), 5)
  else tabE s (tabR sep s.length [] s)
end Go.Proofs.YtoalecalahkblaaGreatDoor

set_option linter.all false
namespace Go.Proofs.YtoalecalahkblaaGreatDoor
open Go.RowKit
def bsOf (l : List UInt8) : ByteArray := ⟨l.toArray⟩
theorem bs_list (l : List UInt8) : (bsOf l).data.toList = l := rfl
theorem bs_size (l : List UInt8) : (bsOf l).size = l.length := by unfold bsOf ByteArray.size; simp
theorem bs_of (s : ByteArray) : bsOf s.data.toList = s := by unfold bsOf; rfl
def SlP (D : Nat → Prop) (w : World) (v : Value) (ls : List Bt) : Prop := SlS D w v (ls.map bsOf)
theorem SlP.keep {D D' : Nat → Prop} {w w' : World} {v : Value} {ls : List Bt} (h : SlP D w v ls) (hd : ∀ b, D b → D' b) (hs : Same D w w') : SlP D' w' v ls := Sl.keep h RStr.kept hd hs
theorem SlP.now {w w' : World} {v : Value} {ls : List Bt} (h : SlP (Lt w.heap.size) w v ls) (hb : Below w.heap.size w w') : SlP (Lt w'.heap.size) w' v ls := SlS.below h hb hb.size
theorem SlP.open_ {D : Nat → Prop} {w : World} {v : Value} {ls : List Bt} (h : SlP D w v ls) : ∃ A c, v = .slice A ls.length c ∧ ls.length ≤ c ∧ c ≤ 9223372036854775807 ∧ SlP D w (.slice A ls.length c) ls := by
  have := SlS.open_ h
  rw [List.length_map] at this
  exact this
theorem SlP.at_ {D : Nat → Prop} {w : World} {ls : List Bt} {A : Option Addr} {n c k : Nat} (h : SlP D w (.slice A n c) ls) (hk : k < n) :
    ∃ b o l, A = some ⟨b, o, none⟩ ∧ D b ∧ ls[k]? = some l ∧ l.length ≤ maxLen ∧ w.cell? ⟨b, o + k, none⟩ = some (.string (bsOf l)) := by
  obtain ⟨b, o, s, hA, hD, hx, hm, hc⟩ := SlS.at_ h hk
  rw [List.getElem?_map] at hx
  cases hl : ls[k]? with
  | none => rw [hl] at hx; cases hx
  | some l =>
    rw [hl] at hx
    injection hx with hx
    subst hx
    exact ⟨b, o, l, hA, hD, rfl, by rw [bs_size] at hm; exact hm, hc⟩
def RStrs : ElemR (List Bt) := fun D w r cs => ∃ v, cs = [v] ∧ SlP D w v r
theorem RStrs.kept : ElemR.Kept RStrs := by
  rintro D D' w w' x cs hd hs ⟨v, rfl, h⟩
  exact ⟨v, rfl, h.keep hd hs⟩
def SlSS := Sl 1 RStrs
theorem SlSS.at_ {D : Nat → Prop} {w : World} {rs : List (List Bt)} {A : Option Addr} {n c k : Nat} (h : SlSS D w (.slice A n c) rs) (hk : k < n) :
    ∃ b o r u, A = some ⟨b, o, none⟩ ∧ D b ∧ rs[k]? = some r ∧ SlP D w u r ∧ w.cell? ⟨b, o + k, none⟩ = some u := by
  obtain ⟨b, o, x, u, hA, hD, hx, ⟨u', hu, hf⟩, hc⟩ := Sl.at1 h hk
  injection hu with hu; subst hu
  exact ⟨b, o, x, u, hA, hD, hx, hf, hc⟩
theorem SlSS.now {w w' : World} {v : Value} {rs : List (List Bt)} (h : SlSS (Lt w.heap.size) w v rs) (hb : Below w.heap.size w w') : SlSS (Lt w'.heap.size) w' v rs := Sl.below h RStrs.kept hb hb.size
theorem SlSS.open_ {D : Nat → Prop} {w : World} {v : Value} {rs : List (List Bt)} (h : SlSS D w v rs) : ∃ A c, v = .slice A rs.length c ∧ rs.length ≤ c ∧ c ≤ 9223372036854775807 ∧ SlSS D w (.slice A rs.length c) rs := Sl.open_ h
theorem sepI (c : UInt8) : isSep c = (decide ((c.toNat : Int) = 44) || decide ((c.toNat : Int) = 59) || decide ((c.toNat : Int) = 124) || decide ((c.toNat : Int) = 9)) := by
  have h : ∀ k : UInt8, (c == k) = decide ((c.toNat : Int) = (k.toNat : Int)) := fun k => by
    by_cases e : c = k
    · rw [e, decide_eq_true rfl]; exact beq_self_eq_true k
    · have : c.toNat ≠ k.toNat := fun h => e (UInt8.toNat_inj.1 h)
      rw [decide_eq_false (by omega)]; exact beq_false_of_ne e
  unfold isSep
  rw [h 44, h 59, h 124, h 9]; rfl
theorem printI (c : UInt8) : printB c = (decide (32 ≤ (c.toNat : Int)) && decide ((c.toNat : Int) ≤ 126)) := by
  unfold printB
  have h1 : decide ((32 : UInt8) ≤ c) = decide (32 ≤ (c.toNat : Int)) := decide_eq_decide.2 (by rw [UInt8.le_iff_toNat_le]; show 32 ≤ c.toNat ↔ _; omega)
  have h2 : decide (c ≤ (126 : UInt8)) = decide ((c.toNat : Int) ≤ 126) := decide_eq_decide.2 (by rw [UInt8.le_iff_toNat_le]; show c.toNat ≤ 126 ↔ _; omega)
  rw [h1, h2]
theorem u8_ne {c k : UInt8} (h : c ≠ k) : ¬ (c.toNat : Int) = (k.toNat : Int) := fun e => h (UInt8.toNat_inj.1 (by omega))
theorem beqI (c k : UInt8) (n : Int) (hn : (k.toNat : Int) = n) : ((c.toNat : Int) == n) = (c == k) := by
  by_cases e : c = k
  · have h1 : (c == k) = true := by rw [e]; exact beq_self_eq_true k
    rw [h1, ← hn, e]; exact beq_self_eq_true _
  · have h1 : (c == k) = false := beq_false_of_ne e
    rw [h1, ← hn]
    exact beq_false_of_ne (u8_ne e)
end Go.Proofs.YtoalecalahkblaaGreatDoor

set_option linter.all false
namespace Go.Proofs.YtoalecalahkblaaGreatDoor
open Go.RowKit
theorem separates_any (c : UInt8) (w : World) : Calls Tryz.prog 39 #[.int .u8 (c.toNat : Int)] w fun e w' => e = .returned (.bool (isSep c)) ∧ w = w' := by
  have hs := sepI c
  generalize isSep c = q at *
  generalize (c.toNat : Int) = z at *
  have HS := Lib.hid hs
  clear hs
  by_cases h1 : z = 44
  · have HQ := Lib.hid (HS.out.trans (by rw [decide_eq_true h1]; rfl : _ = true))
    have e1 : (z == 44) = true := by rw [h1]; rfl
    clear HS h1
    go_enter Tryz.func39, Tryz.ntmps39
    go_wp2_with fail
    go_ret
    exact ⟨ret_bool HQ.out.symm, rfl⟩
  by_cases h2 : z = 59
  · have HQ := Lib.hid (HS.out.trans (by rw [decide_eq_true h2, Bool.or_true]; rfl : _ = true))
    have e1 : (z == 44) = false := by rw [h2]; rfl
    have e2 : (z == 59) = true := by rw [h2]; rfl
    clear HS h1 h2
    go_enter Tryz.func39, Tryz.ntmps39
    go_wp2_with fail
    go_ret
    exact ⟨ret_bool HQ.out.symm, rfl⟩
  by_cases h3 : z = 124
  · have HQ := Lib.hid (HS.out.trans (by rw [decide_eq_true h3, Bool.or_true]; rfl : _ = true))
    have e1 : (z == 44) = false := by rw [h3]; rfl
    have e2 : (z == 59) = false := by rw [h3]; rfl
    have e3 : (z == 124) = true := by rw [h3]; rfl
    clear HS h1 h2 h3
    go_enter Tryz.func39, Tryz.ntmps39
    go_wp2_with fail
    go_ret
    exact ⟨ret_bool HQ.out.symm, rfl⟩
  have e1 : (z == 44) = false := beq_false_of_ne h1
  have e2 : (z == 59) = false := beq_false_of_ne h2
  have e3 : (z == 124) = false := beq_false_of_ne h3
  have HQ := Lib.hid (HS.out.trans (by rw [decide_eq_false h1, decide_eq_false h2, decide_eq_false h3]; rfl : _ = decide (z = 9)))
  clear HS h1 h2 h3
  go_enter Tryz.func39, Tryz.ntmps39
  go_wp2_with fail
  go_ret
  exact ⟨ret_bool (by rw [HQ.out]; rfl), rfl⟩
theorem separator_ref (c : UInt8) (w : World) : Calls Tryz.prog 50 #[.int .u8 (c.toNat : Int)] w fun e w' => e = .returned (.bool (isSep c)) ∧ w = w' := by
  have hs := sepI c
  generalize isSep c = q at *
  generalize (c.toNat : Int) = z at *
  have HS := Lib.hid hs
  clear hs
  by_cases h1 : z = 44
  · have HQ := Lib.hid (HS.out.trans (by rw [decide_eq_true h1]; rfl : _ = true))
    have e1 : (z == 44) = true := by rw [h1]; rfl
    clear HS h1
    go_enter Tryz.func50, Tryz.ntmps50
    go_wp2_with fail
    go_ret
    exact ⟨ret_bool HQ.out.symm, rfl⟩
  by_cases h2 : z = 59
  · have HQ := Lib.hid (HS.out.trans (by rw [decide_eq_true h2, Bool.or_true]; rfl : _ = true))
    have e1 : (z == 44) = false := by rw [h2]; rfl
    have e2 : (z == 59) = true := by rw [h2]; rfl
    clear HS h1 h2
    go_enter Tryz.func50, Tryz.ntmps50
    go_wp2_with fail
    go_ret
    exact ⟨ret_bool HQ.out.symm, rfl⟩
  by_cases h3 : z = 124
  · have HQ := Lib.hid (HS.out.trans (by rw [decide_eq_true h3, Bool.or_true]; rfl : _ = true))
    have e1 : (z == 44) = false := by rw [h3]; rfl
    have e2 : (z == 59) = false := by rw [h3]; rfl
    have e3 : (z == 124) = true := by rw [h3]; rfl
    clear HS h1 h2 h3
    go_enter Tryz.func50, Tryz.ntmps50
    go_wp2_with fail
    go_ret
    exact ⟨ret_bool HQ.out.symm, rfl⟩
  have e1 : (z == 44) = false := beq_false_of_ne h1
  have e2 : (z == 59) = false := beq_false_of_ne h2
  have e3 : (z == 124) = false := beq_false_of_ne h3
  have HQ := Lib.hid (HS.out.trans (by rw [decide_eq_false h1, decide_eq_false h2, decide_eq_false h3]; rfl : _ = decide (z = 9)))
  clear HS h1 h2 h3
  go_enter Tryz.func50, Tryz.ntmps50
  go_wp2_with fail
  go_ret
  exact ⟨ret_bool (by rw [HQ.out]; rfl), rfl⟩
theorem printable_any (c : UInt8) (w : World) : Calls Tryz.prog 43 #[.int .u8 (c.toNat : Int)] w fun e w' => e = .returned (.bool (printB c)) ∧ w = w' := by
  have HS := Lib.hid (printI c)
  generalize printB c = q at *
  generalize (c.toNat : Int) = z at *
  by_cases h1 : 32 ≤ z <;> by_cases h2 : z ≤ 126
  all_goals
    have HQ := Lib.hid (HS.out.trans (by simp only [h1, h2, decide_true, decide_false, Bool.and_true, Bool.true_and, Bool.and_false, Bool.false_and]; exact rfl))
    clear HS
    go_enter Tryz.func43, Tryz.ntmps43
    go_wp2_with fail
    go_ret
    exact ⟨ret_bool HQ.out.symm, rfl⟩
end Go.Proofs.YtoalecalahkblaaGreatDoor

set_option linter.all false
namespace Go.Proofs.YtoalecalahkblaaGreatDoor
open Go.RowKit
open Classical in
noncomputable def ext (w W : World) : World := if Below w.heap.size w W then W else w
theorem ext_below (w W : World) : Below w.heap.size w (ext w W) := by
  unfold ext; split
  · assumption
  · exact Below.refl _ _
theorem ext_of {w W : World} (h : Below w.heap.size w W) : ext w W = W := by unfold ext; rw [if_pos h]
theorem ext_ex {w W : World} (h : Below w.heap.size w W) : ∃ W', W = ext w W' := ⟨W, (ext_of h).symm⟩
theorem wp_region_grow {P : Program} {id : Nat} {Q : Exit → Act → World → Prop} {a : Act} {w : World} {l : List Oper} (hm : P.follows .mixedOrders = true) (hB : Region.lexB .any l.toArray = true)
    (h : wpQuiet P l.toArray (fun w' => ∃ W, w' = ext w W) (fun a' => ∀ w', (∃ W, w' = ext w W) → Q .normal a' w') l a) : (Code.region id l.toArray true).wp P Q a w :=
  wp_region_quiet (C := fun w' => ∃ W, w' = ext w W) hm hB (ext_ex ((Below.refl _ w).drew)) (by simpa using h)
theorem grow_of {P : Program} {f : FuncId} {args : Array Value} {w W : World} {v : Value}
    (h : Calls P f args (ext w W) fun e w' => e = .returned v ∧ Below (ext w W).heap.size (ext w W) w') : Calls P f args (ext w W) fun e w'' => e = .returned v ∧ ∃ W', w'' = ext w W' :=
  h.mono fun _ _ ⟨he, hb⟩ => ⟨he, ext_ex (bthen (ext_below w W) hb)⟩
theorem grow_same' {P : Program} {f : FuncId} {args : Array Value} {w W : World} {v : Value}
    (h : Calls P f args (ext w W) fun e w' => e = .returned v ∧ ext w W = w') : Calls P f args (ext w W) fun e w'' => e = .returned v ∧ ∃ W', w'' = ext w W' :=
  h.mono fun _ _ ⟨he, hb⟩ => ⟨he, W, hb.symm⟩
end Go.Proofs.YtoalecalahkblaaGreatDoor

set_option linter.all false
namespace Go.Proofs.YtoalecalahkblaaGreatDoor
open Go.RowKit
theorem i64wrap {n : Int} (h : -9223372036854775808 ≤ n ∧ n ≤ 9223372036854775807) : IntKind.i64.wrap n = n := by
  simp [IntKind.wrap, IntKind.bits, IntKind.signed]
  split <;> omega
structure Veil (p : Prop) : Prop where
  out : p
theorem veil_step {P : Program} {ops : Array Oper} {C : World → Prop} {Q : Act → Prop} {a : Act} {o : Oper} {rest : List Oper}
    (h : ∀ K : Act → Prop, (∀ a, Veil (wpQuiet P ops C Q rest a) → K a) → if Region.wanted o (yielded ops a.tmps) then o.quiet P a C K else K (a.put o.dst undef)) : Veil (wpQuiet P ops C Q (o :: rest) a) :=
  ⟨wpQuiet_step fun K hK => h K fun a ha => hK a ha.out⟩
theorem veil_nil {P : Program} {ops : Array Oper} {C : World → Prop} {Q : Act → Prop} {a : Act} (h : Q a) : Veil (wpQuiet P ops C Q [] a) := ⟨wpQuiet_nil h⟩
theorem wp_region_growV {P : Program} {id : Nat} {Q : Exit → Act → World → Prop} {a : Act} {w : World} {l : List Oper} (hm : P.follows .mixedOrders = true) (hB : Region.lexB .any l.toArray = true)
    (h : Veil (wpQuiet P l.toArray (fun w' => ∃ W, w' = ext w W) (fun a' => ∀ w', (∃ W, w' = ext w W) → Q .normal a' w') l a)) : (Code.region id l.toArray true).wp P Q a w :=
  wp_region_grow hm hB h.out
end Go.Proofs.YtoalecalahkblaaGreatDoor

set_option linter.all false
namespace Go.Proofs.YtoalecalahkblaaGreatDoor
open Go.RowKit
structure Chg (S : Nat → Prop) (w w' : World) : Prop where
  os : w'.os = w.os
  tape : w'.tape = w.tape
  output : w'.output = w.output
  size : w.heap.size ≤ w'.heap.size
  block : ∀ i, i < w.heap.size → ¬ S i → w'.heap[i]? = w.heap[i]?
section
variable {S T : Nat → Prop} {w w' w'' : World}
theorem Chg.refl : Chg S w w := ⟨rfl, rfl, rfl, Nat.le_refl _, fun _ _ _ => rfl⟩
theorem Chg.trans (h : Chg S w w') (k : Chg S w' w'') : Chg S w w'' :=
  ⟨k.os.trans h.os, k.tape.trans h.tape, k.output.trans h.output, Nat.le_trans h.size k.size, fun i hi hn => (k.block i (Nat.lt_of_lt_of_le hi h.size) hn).trans (h.block i hi hn)⟩
theorem Chg.mono (h : Chg S w w') (hs : ∀ i, i < w.heap.size → S i → T i) : Chg T w w' := ⟨h.os, h.tape, h.output, h.size, fun i hi hn => h.block i hi fun hs' => hn (hs i hi hs')⟩
theorem Chg.of_below (h : Below w.heap.size w w') : Chg S w w' := ⟨h.os, h.tape, h.output, h.size, fun i hi _ => h.block i hi⟩
theorem Chg.set (h : Chg S w w') {p : Addr} (hp : w.heap.size ≤ p.block ∨ S p.block) (u : Value) : Chg S w (w'.setCell p u) :=
  ⟨h.os, h.tape, h.output, by simpa using h.size, fun i hi hn => (Below.heap_setCell w' p u i fun e => by
    rcases hp with hp | hp
    · omega
    · rw [← e] at hp; exact hn hp).trans (h.block i hi hn)⟩
theorem Chg.alloc (h : Chg S w w') (o : Obj) : Chg S w (w'.alloc o) := h.trans (Chg.of_below (bone w' o))
theorem Chg.drew (h : Chg S w w') : Chg S w w'.drew := ⟨h.os, h.tape, h.output, h.size, h.block⟩
theorem Chg.below {B : Nat} (h : Chg S w w') (hB : B ≤ w.heap.size) (hs : ∀ i, i < B → ¬ S i) : Below B w w' := ⟨h.os, h.tape, h.output, h.size, fun i hi => h.block i (Nat.lt_of_lt_of_le hi hB) (hs i hi)⟩
theorem Blk.chg {g t : Nat} {cs : Array Value} (h : Blk w g t cs) (k : Chg S w w') (hg : ¬ S g) : Blk w' g t cs := (k.block g h.lt hg).trans h
end
def One (R : Nat) : Nat → Prop := fun i => i = R
end Go.Proofs.YtoalecalahkblaaGreatDoor

set_option linter.all false
namespace Go.Proofs.YtoalecalahkblaaGreatDoor
open Go.RowKit
abbrev rdrCells (s : ByteArray) (sep : UInt8) (i : Nat) (p : Int × Int) : Array Value := #[.string s, .int .u8 (sep.toNat : Int), .int .i64 (i : Int), .int .i64 p.1, .int .i64 p.2]
def RdC (w : World) (R : Nat) (s : ByteArray) (sep : UInt8) (i : Nat) : Prop := Blk w R 107 (rdrCells s sep i (plAt s.data.toList i))
theorem more_any (R : Nat) (s : ByteArray) (sep : UInt8) (i : Nat) (w : World) (h : RdC w R s sep i) (hs : s.size ≤ 16384) :
    Calls Tryz.prog 68 #[.pointer (some ⟨R, 0, none⟩)] w fun e w' => e = .returned (.bool (decide (i < s.size))) ∧ Below w.heap.size w w' := by
  obtain ⟨c0, c1, c2, c3, c4⟩ := Blk.c5 h
  go_enter Tryz.func68, Tryz.ntmps68
  go_upto_region 1 with fail
  go_quiet (fail)
  go_wp2_with fail
  go_ret
  exact ⟨rfl, bdrawn (Below.refl _ _) _⟩
theorem rdByte {s : ByteArray} {i : Nat} (h : i < s.size) : i < s.data.toList.length ∧ ∀ h' : i < s.data.toList.length, s.data.toList[i] = s[i] := ⟨by simpa using h, fun _ => rfl⟩
set_option maxHeartbeats 2000000 in
theorem next_any (R : Nat) (s : ByteArray) (sep : UInt8) (i : Nat) (w : World) (h : RdC w R s sep i) (hs : s.size ≤ 16384) (hi : i < s.size) :
    Calls Tryz.prog 70 #[.pointer (some ⟨R, 0, none⟩)] w fun e w' => e = .returned (.int .u8 (s[i].toNat : Int)) ∧ RdC w' R s sep (i + 1) ∧ Chg (One R) w w' := by
  have hb := plAt_bound s.data.toList i
  rw [show s.data.toList.length = s.size from by simp] at hb
  have hst := plAt_step (rdByte hi).1
  rw [(rdByte hi).2] at hst
  have h' : Blk w R 107 (rdrCells s sep i (plAt s.data.toList i)) := h
  have HRES : Hid (∀ w', Blk w' R 107 (rdrCells s sep (i + 1) (advP (plAt s.data.toList i) s[i])) → RdC w' R s sep (i + 1)) := by
    intro w' hB
    show Blk _ _ _ _
    rw [hst]; exact hB
  clear hst h
  obtain ⟨p, hp⟩ : ∃ p, plAt s.data.toList i = p := ⟨_, rfl⟩
  rw [hp] at h' HRES hb
  clear hp
  obtain ⟨p1, p2⟩ := p
  obtain ⟨c0, c1, c2, c3, c4⟩ := h'.c5
  have i1 : (0 : Int) ≤ (i : Int) := by omega
  have i2 : (i : Int) < (s.size : Int) := by omega
  simp only at hb c3 c4
  obtain ⟨c, hc⟩ : ∃ c, s[i] = c := ⟨_, rfl⟩
  rw [hc] at HRES
  have HC := Lib.hid hc
  clear hc
  have hbi : ((i : Int) + 1) = ((i + 1 : Nat) : Int) := by omega
  have HBI := Lib.hid hbi
  clear hbi
  go_enter Tryz.func70, Tryz.ntmps70
  go_upto_region 1 with fail
  go_quiet (fail)
  obtain ⟨wq, hwq⟩ : ∃ wq, w.drewN nq = wq := ⟨_, rfl⟩
  have hB : Blk wq R 107 (rdrCells s sep i (p1, p2)) := by rw [← hwq]; exact h'.drewN _
  have hbq : Chg (One R) w wq := by rw [← hwq]; exact Chg.of_below (bdrawn (Below.refl _ _) _)
  rw [hwq]
  clear hwq h' c0 c1 c2 c3 c4
  obtain ⟨c0, c1, c2, c3, c4⟩ := hB.c5
  have f2 := hB.frozen 2
  have f3 := hB.frozen 3
  have f4 := hB.frozen 4
  rw [HC.out]
  obtain ⟨z, hz⟩ : ∃ z, (c.toNat : Int) = z := ⟨_, rfl⟩
  rw [hz]
  have b1 : -9223372036854775808 ≤ p1 + 1 ∧ p1 + 1 ≤ 9223372036854775807 := by omega
  have b2 : -9223372036854775808 ≤ p2 + 1 ∧ p2 + 1 ≤ 9223372036854775807 := by omega
  by_cases h10 : c = 10
  · have e10 : (z == 10) = true := by rw [← hz, h10]; rfl
    have HA : Hid (advP (p1, p2) c = (p1 + 1, 1)) := by show _ = _; unfold advP; rw [if_pos h10]
    have HZ := Lib.hid hz
    clear h10 hz
    go_wp2_with fail
    go_ret
    have hk := (((hB.set_ 2 (.int .i64 ((i : Int) + 1))).set_ 4 (.int .i64 (p2 + 1))).set_ 3 (.int .i64 (p1 + 1))).set_ 4 (.int .i64 1)
    rw [HBI.out] at hk
    refine ⟨by show Ending.returned (Value.int .u8 z) = _; rw [HC.out, HZ.out], HRES.out _ (by rw [HA.out]; exact hk), ?_⟩
    exact (((hbq.set (p := ⟨R, 2, none⟩) (.inr rfl) _).set (p := ⟨R, 4, none⟩) (.inr rfl) _).set (p := ⟨R, 3, none⟩) (.inr rfl) _).set (p := ⟨R, 4, none⟩) (.inr rfl) _
  · have e10 : (z == 10) = false := by
      refine beq_false_of_ne ?_
      rw [← hz]; exact u8_ne h10
    have HA : Hid (advP (p1, p2) c = (p1, p2 + 1)) := by show _ = _; unfold advP; rw [if_neg h10]
    have HZ := Lib.hid hz
    clear h10 hz
    go_wp2_with fail
    go_ret
    have hk := (hB.set_ 2 (.int .i64 ((i : Int) + 1))).set_ 4 (.int .i64 (p2 + 1))
    rw [HBI.out] at hk
    refine ⟨by show Ending.returned (Value.int .u8 z) = _; rw [HC.out, HZ.out], HRES.out _ (by rw [HA.out]; exact hk), ?_⟩
    exact (hbq.set (p := ⟨R, 2, none⟩) (.inr rfl) _).set (p := ⟨R, 4, none⟩) (.inr rfl) _
def endsAt (sep : UInt8) (t : Bt) (i : Nat) : Bool := endsB sep (t.drop i)
theorem endsAt_end {sep : UInt8} {t : Bt} {i : Nat} (h : t.length ≤ i) : endsAt sep t i = true := by
  unfold endsAt; rw [List.drop_eq_nil_of_le h]; rfl
theorem endsAt_in {sep : UInt8} {t : Bt} {i : Nat} (h : i < t.length) : endsAt sep t i = (t[i] == 10 || t[i] == sep) := by
  unfold endsAt; rw [List.drop_eq_getElem_cons h]; rfl
set_option maxHeartbeats 4000000 in
set_option maxRecDepth 100000 in
theorem ends_any (R : Nat) (s : ByteArray) (sep : UInt8) (i : Nat) (w : World) (h : RdC w R s sep i) (hs : s.size ≤ 16384) :
    Calls Tryz.prog 117 #[.pointer (some ⟨R, 0, none⟩)] w fun e w' => e = .returned (.bool (endsAt sep s.data.toList i)) ∧ Below w.heap.size w w' := by
  have h' : Blk w R 107 (rdrCells s sep i (plAt s.data.toList i)) := h
  have HM : Hid (∀ W, Calls Tryz.prog 68 #[.pointer (some ⟨R, 0, none⟩)] (ext w W) fun e w' => e = .returned (.bool (decide (i < s.size))) ∧ Below (ext w W).heap.size (ext w W) w') := fun W => more_any R s sep i (ext w W) (h'.now (ext_below w W)) hs
  obtain ⟨p1, p2⟩ := plAt s.data.toList i
  have cc := fun W => (h'.now (ext_below w W)).c5
  have c0 := fun W => (cc W).1
  have c1 := fun W => (cc W).2.1
  have c2 := fun W => (cc W).2.2.1
  have i0 : (0 : Int) ≤ (i : Int) := by omega
  clear cc h' h
  by_cases hi : i < s.size
  · have hE := endsAt_in (sep := sep) (rdByte hi).1
    rw [(rdByte hi).2] at hE
    have i2 : (i : Int) < (s.size : Int) := by omega
    have HM2 : Hid (∀ W, Calls Tryz.prog 68 #[.pointer (some ⟨R, 0, none⟩)] (ext w W) fun e w' => e = .returned (.bool true) ∧ Below (ext w W).heap.size (ext w W) w') := fun W => by have := HM.out W; rwa [decide_eq_true hi] at this
    have e1 := beqI s[i] 10 10 rfl
    have e2 := beqI s[i] sep sep.toNat rfl
    have HE := Lib.hid hE
    generalize (s[i] == 10) = q1 at *
    generalize (s[i] == sep) = q2 at *
    clear hE HM
    cases q1
    · go_enter Tryz.func117, Tryz.ntmps117
      go_upto_region 1 with fail
      refine wp_region_growV (by kernel_rfl) (by kernel_rfl) ?_
      repeat (refine veil_step (fun K hK => ?_); go_simp; first | (refine hK _ ?_; clear hK K) | (apply Exists.intro; refine ⟨fun Wq => ?_, hK _ ?_⟩; ((go_at_call 68; exact grow_of (HM2.out Wq))); clear hK K))
      refine veil_nil ?_
      intro _ hw'
      obtain ⟨W, rfl⟩ := hw'
      go_wp2_with fail
      go_ret
      exact ⟨ret_bool (by rw [HE.out]; rfl), ext_below w W⟩
    · go_enter Tryz.func117, Tryz.ntmps117
      go_upto_region 1 with fail
      refine wp_region_growV (by kernel_rfl) (by kernel_rfl) ?_
      repeat (refine veil_step (fun K hK => ?_); go_simp; first | (refine hK _ ?_; clear hK K) | (apply Exists.intro; refine ⟨fun Wq => ?_, hK _ ?_⟩; ((go_at_call 68; exact grow_of (HM2.out Wq))); clear hK K))
      refine veil_nil ?_
      intro _ hw'
      obtain ⟨W, rfl⟩ := hw'
      go_wp2_with fail
      go_ret
      exact ⟨ret_bool (by rw [HE.out]; rfl), ext_below w W⟩
  · have HE := Lib.hid (endsAt_end (sep := sep) (t := s.data.toList) (i := i) (by have : s.data.toList.length = s.size := by simp
                                                                                  omega))
    have HM2 : Hid (∀ W, Calls Tryz.prog 68 #[.pointer (some ⟨R, 0, none⟩)] (ext w W) fun e w' => e = .returned (.bool false) ∧ Below (ext w W).heap.size (ext w W) w') := fun W => by have := HM.out W; rwa [decide_eq_false hi] at this
    clear HM hi
    go_enter Tryz.func117, Tryz.ntmps117
    go_upto_region 1 with fail
    refine wp_region_growV (by kernel_rfl) (by kernel_rfl) ?_
    repeat (refine veil_step (fun K hK => ?_); go_simp; first | (refine hK _ ?_; clear hK K) | (apply Exists.intro; refine ⟨fun Wq => ?_, hK _ ?_⟩; ((go_at_call 68; exact grow_of (HM2.out Wq))); clear hK K))
    refine veil_nil ?_
    intro _ hw'
    obtain ⟨W, rfl⟩ := hw'
    go_wp2_with fail
    go_ret
    exact ⟨ret_bool (by rw [HE.out]), ext_below w W⟩
end Go.Proofs.YtoalecalahkblaaGreatDoor

set_option linter.all false
namespace Go.Proofs.YtoalecalahkblaaGreatDoor
open Go.RowKit
theorem conv_nil {P : Program} (w : World) (src dst e : TypeId) (c : Nat) (hs : P.underlying src = some (.slice e)) (he : P.underlying e = some (.int .u8)) (hd : P.underlying dst = some .string) :
    (convert src dst (.slice none 0 c)).run P w = .ok (.string ⟨#[]⟩) w := by
  rw [run_convert_bytes_string w src dst e none 0 c hs he hd]
  simp [Conv.bytesToString]
  rfl
def cellC (c : UInt8) : List Value := [.int .u8 (c.toNat : Int)]
theorem cellC_one (c : UInt8) : ∀ u ∈ cellC c, u.oneCell' = true := by intro u hu; simp [cellC] at hu; subst hu; rfl
def OwnC (w : World) (base : Nat) (v : Value) (l : List UInt8) : Prop := OwnW 1 cellC w base 5 v l
theorem appBytes : AppInfo Tryz.prog 72 5 1 := AppInfo.mk' (z := .int .u8 0) (bytes := 1) Tryz.underlying72 (by kernel_rfl) (by decide) rfl (by decide)
theorem flatC (l : List UInt8) : flat cellC l = l.map fun c => .int .u8 (c.toNat : Int) := by
  unfold flat cellC
  induction l with
  | nil => rfl
  | cons a l ih => rw [List.flatMap_cons, ih]; rfl
theorem OwnC.now {w w' : World} {base : Nat} {v : Value} {l : List UInt8} (h : OwnC w base v l) (hb : Below w.heap.size w w') : OwnC w' base v l := OwnW.now h hb
theorem OwnC.conv {w : World} {base : Nat} {v : Value} {l : List UInt8} (h : OwnC w base v l) : (convert 72 9 v).run Tryz.prog w = .ok (.string ⟨l.toArray⟩) w := by
  rcases Nat.eq_zero_or_pos l.length with h0 | h0
  · have : l = [] := List.eq_nil_of_length_eq_zero h0
    subst this
    rcases h.2 with ⟨rfl, _⟩ | ⟨g, cap, cur, rfl, _⟩
    · exact conv_nil w _ _ _ 0 Tryz.underlying72 Tryz.underlying5 Tryz.underlying9
    · exact run_convert_bytes_back w _ _ _ ⟨g, 0, none⟩ cap [] Tryz.underlying72 Tryz.underlying5 Tryz.underlying9 (fun j hj => absurd hj (by simp))
  · obtain ⟨g, cap, rfl, _, _, _⟩ := OwnW.form h h0
    refine run_convert_bytes_back w _ _ _ ⟨g, 0, none⟩ cap l Tryz.underlying72 Tryz.underlying5 Tryz.underlying9 (fun j hj => ?_)
    have hc := World.ownsRow.cellAt h j (by omega)
    have e : ((⟨g, 0, none⟩ : Addr).add j) = ⟨g, j, none⟩ := by unfold Addr.add; by_cases hj : j = 0 <;> simp [hj]
    rw [e, hc, flatC]
    simp [List.getElem?_eq_getElem hj]
end Go.Proofs.YtoalecalahkblaaGreatDoor

set_option linter.all false
namespace Go.Proofs.YtoalecalahkblaaGreatDoor
open Go.RowKit
def Hat (w : World) (v v' : Value) : Prop := ∀ g, v'.ownBlock = some g → v.ownBlock = some g ∨ w.heap.size ≤ g
structure Adds (base : Nat) (w : World) (v : Value) (l : List UInt8) (w' : World) (v' : Value) : Prop where
  own : OwnC w' base v' l
  grown : w.grownBy w' v.ownBlock
  hat : Hat w v v'
theorem Adds.trans {base : Nat} {w w1 w2 : World} {v v1 v2 : Value} {l1 l2 : List UInt8} (h : Adds base w v l1 w1 v1) (k : Adds base w1 v1 l2 w2 v2) : Adds base w v l2 w2 v2 :=
  ⟨k.own, ⟨k.grown.os.trans h.grown.os, k.grown.tape.trans h.grown.tape, k.grown.output.trans h.grown.output, Nat.le_trans h.grown.size k.grown.size, fun i hi hne => by
    have h1 := h.grown.block i hi hne
    refine (k.grown.block i (Nat.lt_of_lt_of_le hi h.grown.size) (fun e => ?_)).trans h1
    rcases h.hat i e.symm with e2 | e2
    · exact hne e2.symm
    · omega⟩, fun g hg => by
    rcases k.hat g hg with e | e
    · exact h.hat g e
    · exact .inr (Nat.le_trans h.grown.size e)⟩
theorem Adds.pre {base : Nat} {w w1 w2 : World} {v v2 : Value} {l2 : List UInt8} (hb : Below w.heap.size w w1) (k : Adds base w1 v l2 w2 v2) : Adds base w v l2 w2 v2 :=
  ⟨k.own, ⟨k.grown.os.trans hb.os, k.grown.tape.trans hb.tape, k.grown.output.trans hb.output, Nat.le_trans hb.size k.grown.size, fun i hi hne => (k.grown.block i (Nat.lt_of_lt_of_le hi hb.size) hne).trans (hb.block i hi)⟩, fun g hg => by
    rcases k.hat g hg with e | e
    · exact .inl e
    · exact .inr (Nat.le_trans hb.size e)⟩
theorem Adds.post {base : Nat} {w w1 w2 : World} {v v1 : Value} {l : List UInt8} (h : Adds base w v l w1 v1) (hb : Below w1.heap.size w1 w2) : Adds base w v l w2 v1 :=
  ⟨h.own.now hb, ⟨hb.os.trans h.grown.os, hb.tape.trans h.grown.tape, hb.output.trans h.grown.output, Nat.le_trans h.grown.size hb.size, fun i hi hne => (hb.block i (Nat.lt_of_lt_of_le hi h.grown.size)).trans (h.grown.block i hi hne)⟩, h.hat⟩
theorem Adds.below {base : Nat} {w w' : World} {v v' : Value} {l l0 : List UInt8} (h : Adds base w v l w' v') (h0 : OwnC w base v l0) (hb : base ≤ w.heap.size) : Below base w w' :=
  below_of_grown h.grown hb fun g hg => (World.ownsRow.lt h0 g hg).1
theorem Adds.refl {base : Nat} {w : World} {v : Value} {l : List UInt8} (h : OwnC w base v l) : Adds base w v l w v := ⟨h, World.grownBy.refl _ _, fun _ hg => .inl hg⟩
theorem Adds.keep {base : Nat} {w w' : World} {v v' : Value} {l l0 : List UInt8} {g t : Nat} {cs : Array Value} (h : Adds base w v l w' v') (h0 : OwnC w base v l0) (hB : Blk w g t cs) (ht : t ≠ 5) : Blk w' g t cs := by
  refine hB.grown h.grown fun e => ?_
  obtain ⟨c, fz, hc⟩ := Lib.ownsRow_kind h0 g e.symm
  have := hB.symm.trans hc
  injection this with this
  injection this with _ e2 _
  exact ht e2
section
variable {base : Nat} {w : World} {v : Value} {l : List UInt8} {o : Oper} {a : Act} {K : Act → World → Prop} {Q : Exit → Act → World → Prop}
theorem wpList_pushC {ops : Array Oper} {rest : List Oper} (hgd : o.guard = none) (sl x : Operand) (ho : o.op = .call { callee := .builtin .append, args := #[sl, x], argTypes := #[72, 72] }) (c : UInt8) (z : Int) (hz : z = (c.toNat : Int)) (hs : a.eval sl = v) (hown : OwnC w base v l) (hx : a.eval x = .slice (some ⟨w.heap.size, 0, none⟩) 1 1) (hn : l.length < 10000000) (hbase : base ≤ w.heap.size)
    (h : ∀ v' w', Adds base w v (l ++ [c]) w' v' → wpList Tryz.prog ops Q rest (a.put o.dst v') w') : wpList Tryz.prog ops Q (o :: rest) a (w.alloc (.cells #[.int .u8 z] 5)) := by
  subst hz
  refine wpList_pushW (fc := cellC) appBytes hgd sl x ho w c l rfl (cellC_one c) v hs hown hx hn hbase fun v' w' h2 h3 h4 => h v' w' ⟨h2, h3, fun g hg => ?_⟩
  rcases h4 with e | e
  · exact .inl (e ▸ hg)
  · rw [e] at hg; injection hg with hg; exact .inr (by omega)
end
end Go.Proofs.YtoalecalahkblaaGreatDoor

set_option linter.all false
namespace Go.Proofs.YtoalecalahkblaaGreatDoor
open Go.RowKit
theorem quotedR_bad {sep c : UInt8} {acc r : Bt} (h : printB c = false) : quotedR sep acc (c :: r) = .bad (c :: r) 3 := by unfold quotedR; rw [if_pos h]
theorem quotedR_chr {sep c : UInt8} {acc r : Bt} (h : printB c = true) (h2 : c ≠ 34) : quotedR sep acc (c :: r) = quotedR sep (acc ++ [c]) r := by
  conv => lhs; unfold quotedR
  rw [if_neg (by rw [h]; decide), if_neg h2]
theorem quotedR_two {sep : UInt8} {acc r : Bt} : quotedR sep acc (34 :: 34 :: r) = quotedR sep (acc ++ [34]) r := by
  conv => lhs; unfold quotedR
  rw [if_neg (by decide), if_pos rfl]
  simp only [if_pos]
theorem quotedR_stop {sep : UInt8} {acc r : Bt} (h : r.head? ≠ some 34) : quotedR sep acc (34 :: r) = if endsB sep r = true then .ok acc r else .bad r 3 := by
  unfold quotedR
  rw [if_neg (by decide), if_pos rfl]
  cases r with
  | nil => simp [endsB]
  | cons d r =>
    have : d ≠ 34 := fun e => h (by rw [e]; rfl)
    simp only [if_neg this]
def RetCell (R : Nat) (s : ByteArray) (sep : UInt8) (i : Nat) (c : CellR) (w : World) (e : Ending) (w' : World) : Prop := ∃ j, i ≤ j ∧ j ≤ s.size ∧ RdC w' R s sep j ∧ Chg (One R) w w' ∧ match c with
  | .ok b rest => rest = s.data.toList.drop j ∧ b.length ≤ s.size ∧ e = .returned (.tuple #[.string (bsOf b), .int .i64 0])
  | .bad rest k => rest = s.data.toList.drop j ∧ k ≠ 0 ∧ e = .returned (.tuple #[.string ⟨#[]⟩, .int .i64 k])
theorem dropAt {s : ByteArray} {j : Nat} (h : j < s.size) : s.data.toList.drop j = s[j] :: s.data.toList.drop (j + 1) := by
  rw [List.drop_eq_getElem_cons (rdByte h).1, (rdByte h).2]
theorem dropEnd {s : ByteArray} {j : Nat} (h : s.size ≤ j) : s.data.toList.drop j = [] := List.drop_eq_nil_of_le (by simpa using h)
theorem headDrop {s : ByteArray} {j : Nat} (h : j < s.size) : (s.data.toList.drop j).head? = some s[j] := by rw [dropAt h]; rfl
theorem Chg.more {S : Nat → Prop} {w w1 w2 : World} {row : Option Nat} (h : Chg S w w1) (k : w1.grownBy w2 row) (hr : ∀ g, row = some g → w.heap.size ≤ g ∨ S g) : Chg S w w2 :=
  ⟨k.os.trans h.os, k.tape.trans h.tape, k.output.trans h.output, Nat.le_trans h.size k.size, fun i hi hn => (k.block i (Nat.lt_of_lt_of_le hi h.size) fun e => by
    rcases hr i e.symm with h' | h'
    · omega
    · exact hn h').trans (h.block i hi hn)⟩
theorem Chg.grown {R : Nat} {w w' : World} (h : Chg (One R) w w') : w.grownBy w' (some R) := ⟨h.os, h.tape, h.output, h.size, fun i hi hne => h.block i hi fun e => hne (by rw [show i = R from e])⟩
theorem OwnC.chg {R base : Nat} {w w' : World} {v : Value} {l : List UInt8} (h : OwnC w base v l) (k : Chg (One R) w w') (hR : R < base) : OwnC w' base v l := by
  refine World.ownsRow.kept h k.grown ?_
  cases e : v.ownBlock with
  | none => exact .inl rfl
  | some g => exact .inr (fun h' => by injection h' with h'; have := (World.ownsRow.lt h g e).1; omega)
theorem OwnC.open_ {base : Nat} {w : World} {v : Value} {l : List UInt8} (h : OwnC w base v l) : ∃ A c, v = .slice A l.length c := by
  rcases h.2 with ⟨rfl, h0⟩ | ⟨g, cap, cur, rfl, _⟩
  · exact ⟨none, 0, by rw [h0]⟩
  · exact ⟨_, _, rfl⟩
theorem RdC.grown {R : Nat} {s : ByteArray} {sep : UInt8} {i : Nat} {w w' : World} {row : Option Nat} (h : RdC w R s sep i) (k : w.grownBy w' row) (hr : some R ≠ row) : RdC w' R s sep i := Blk.grown h k hr
set_option maxHeartbeats 8000000 in
set_option maxRecDepth 100000 in
theorem quoted_any (R : Nat) (s : ByteArray) (sep : UInt8) (i : Nat) (w : World) (h : RdC w R s sep i) (hs : s.size ≤ 16384) (hi : i < s.size) :
    Calls Tryz.prog 116 #[.pointer (some ⟨R, 0, none⟩)] w (RetCell R s sep i (quotedR sep [] (s.data.toList.drop (i + 1))) w) := by
  have HR0 := Lib.hid (Blk.lt h)
  have HN := Lib.hid (next_any R s sep i w h hs hi)
  clear h
  go_enter Tryz.func116, Tryz.ntmps116
  go_wp2_with fail
  (with_reducible refine HN.out.mono ?_)
  rintro _ w1 ⟨rfl, hR1, hC1⟩
  have HR1 := Lib.hid hR1
  have HC1 := Lib.hid hC1
  clear hR1 hC1 HN
  go_wp2_with fail
  go_loopg [4] s.size (fun g1 bv wr => ∃ (j : Nat) (acc : Bt), i + 1 ≤ j ∧ j ≤ s.size ∧ s.size ≤ g1 + j ∧ acc.length ≤ j ∧ OwnC wr w.heap.size bv acc ∧ RdC wr R s sep j ∧ Chg (One R) w wr ∧ Hid (quotedR sep [] (s.data.toList.drop (i + 1)) = quotedR sep acc (s.data.toList.drop j)))
  case atStart => exact ⟨i + 1, [], Nat.le_refl _, by omega, by omega, Nat.zero_le _, OwnW.nil, HR1.out, HC1.out, rfl⟩
  case round =>
    obtain ⟨j, acc, hij, hjs, hg, hal, hO, hR, hC, hQ⟩ := hrel
    have HO := Lib.hid hO
    have HRj := Lib.hid hR
    have HC := Lib.hid hC
    have HMJ := Lib.hid (more_any R s sep j wr hR hs)
    have HWS := Lib.hid hC.size
    obtain ⟨A, cb, hA⟩ := hO.open_
    subst hA
    clear hO hR hC
    by_cases hj : j < s.size
    · have HM : Hid (Calls Tryz.prog 68 #[.pointer (some ⟨R, 0, none⟩)] wr fun e w' => e = .returned (.bool true) ∧ Below wr.heap.size wr w') := by have := HMJ.out; rwa [decide_eq_true hj] at this
      clear HMJ
      go_wp2_with fail
      (with_reducible refine HM.out.mono ?_)
      rintro _ w2 ⟨rfl, hb2⟩
      have hR2 := Blk.now HRj.out hb2
      have hC2 := HC.out.trans (Chg.of_below hb2)
      have hO2 := HO.out.now hb2
      clear HM hb2 HRj HC HO
      have i1 : (0 : Int) ≤ (j : Int) := by omega
      have i2 : (j : Int) < (s.size : Int) := by omega
      obtain ⟨c0, c1, c2, c3, c4⟩ := hR2.c5
      go_upto_region 5 with fail
      go_quiet (fail)
      obtain ⟨w3, hw3⟩ : ∃ w3, w2.drewN nq = w3 := ⟨_, rfl⟩
      have hb3 : Below w2.heap.size w2 w3 := by rw [← hw3]; exact bdrawn (Below.refl _ _) _
      have HR3 : Hid (RdC w3 R s sep j) := Blk.now hR2 hb3
      have HC3 := Lib.hid (hC2.trans (Chg.of_below hb3))
      have HO3 := Lib.hid (hO2.now hb3)
      rw [hw3]
      clear hw3 hb3 hR2 hC2 hO2 c0 c1 c2 c3 c4
      obtain ⟨c, hc⟩ : ∃ c, s[j] = c := ⟨_, rfl⟩
      rw [hc]
      have HN := Lib.hid (next_any R s sep j w3 HR3.out hs hj)
      have HQJ : Hid (quotedR sep [] (s.data.toList.drop (i + 1)) = quotedR sep acc (c :: s.data.toList.drop (j + 1))) := by
        show _ = _
        rw [hQ.out, dropAt hj, hc]
      have HDJ : Hid (s.data.toList.drop j = c :: s.data.toList.drop (j + 1)) := by
        show _ = _
        rw [dropAt hj, hc]
      rw [hc] at HN
      have HCC := Lib.hid hc
      clear hc hQ
      have HP := Lib.hid (printable_any c)
      have HE := Lib.hid (beqI c 34 34 rfl)
      have hpc : ∃ q, printB c = q := ⟨_, rfl⟩
      obtain ⟨q, hq⟩ := hpc
      rw [hq] at HP
      obtain ⟨z, hz⟩ : ∃ z, (c.toNat : Int) = z := ⟨_, rfl⟩
      rw [hz] at HP HE HN ⊢
      cases q with
      | false =>
        have HQF : Hid (quotedR sep [] (s.data.toList.drop (i + 1)) = .bad (s.data.toList.drop j) 3) := by show _ = _; rw [HQJ.out, quotedR_bad hq, HDJ.out]
        clear HN HQJ HDJ HE hz hq
        go_wp2_with fail
        (with_reducible refine (HP.out _).mono ?_)
        rintro _ w4 ⟨rfl, rfl⟩
        go_wp2_with fail
        go_ret2
        rw [HQF.out]
        exact ⟨j, by omega, hjs, HR3.out, HC3.out, rfl, by decide, rfl⟩
      | true =>
        have HQ := Lib.hid hq
        have HZ := Lib.hid hz
        clear hq hz
        by_cases h34 : c = 34
        · have e1 : (z != 34) = false := by
            have := HE.out
            rw [h34] at this
            show (!(z == 34)) = false
            rw [this]; rfl
          have HQS : Hid (quotedR sep [] (s.data.toList.drop (i + 1)) = quotedR sep acc (34 :: s.data.toList.drop (j + 1))) := by show _ = _; rw [HQJ.out, h34]
          clear HE HQJ HDJ h34
          go_wp2_with fail
          (with_reducible refine (HP.out _).mono ?_)
          rintro _ w4 ⟨rfl, rfl⟩
          go_wp2_with fail
          (with_reducible refine HN.out.mono ?_)
          rintro _ w4 ⟨rfl, hR4, hC4⟩
          obtain ⟨j1, hje⟩ : ∃ j1, j + 1 = j1 := ⟨_, rfl⟩
          rw [hje] at hR4 HQS
          have HJ := Lib.hid hje
          clear hje
          have HO4 := Lib.hid (HO3.out.chg hC4 HR0.out)
          have HC4 := Lib.hid (HC3.out.trans hC4)
          have HR4 := Lib.hid hR4
          clear HN HO3 HC3 HR3 hC4
          have hR4' : Blk w4 R 107 (rdrCells s sep (j1) (plAt s.data.toList (j1))) := hR4
          have HM : Hid (∀ W, Calls Tryz.prog 68 #[.pointer (some ⟨R, 0, none⟩)] (ext w4 W) fun e w' => e = .returned (.bool (decide (j1 < s.size))) ∧ Below (ext w4 W).heap.size (ext w4 W) w') := fun W => more_any R s sep (j1) (ext w4 W) (hR4'.now (ext_below w4 W)) hs
          obtain ⟨p1, p2⟩ := plAt s.data.toList (j1)
          have cc := fun W => (hR4'.now (ext_below w4 W)).c5
          have c0 := fun W => (cc W).1
          have c2 := fun W => (cc W).2.2.1
          clear cc hR4' hR4
          have i0 : (0 : Int) ≤ ((j1 : Nat) : Int) := by have := HJ.out; omega
          -- whether a second quote follows
          by_cases hj1 : j1 < s.size
          · have i3 : ((j1 : Nat) : Int) < (s.size : Int) := by have := HJ.out; omega
            have HM2 : Hid (∀ W, Calls Tryz.prog 68 #[.pointer (some ⟨R, 0, none⟩)] (ext w4 W) fun e w' => e = .returned (.bool true) ∧ Below (ext w4 W).heap.size (ext w4 W) w') := fun W => by have := HM.out W; rwa [decide_eq_true hj1] at this
            clear HM
            have HDD := Lib.hid (dropAt hj1)
            have HN := Lib.hid (fun W => next_any R s sep (j1) (ext w4 W) (Blk.now HR4.out (ext_below w4 W)) hs hj1)
            have e2 := beqI s[j1] 34 34 rfl
            by_cases hd : s[j1] = 34
            · have e3 : ((s[j1].toNat : Int) == 34) = true := by rw [e2, hd]; rfl
              have HQT : Hid (quotedR sep [] (s.data.toList.drop (i + 1)) = quotedR sep (acc ++ [34]) (s.data.toList.drop (j1 + 1))) := by
                show _ = _
                rw [HQS.out, HDD.out, hd, quotedR_two]
              have HZ1 : Hid ((s[j1].toNat : Int) = ((34 : UInt8).toNat : Int)) := by show _ = _; rw [hd]
              clear hd HQS HDD e2
              go_upto_region 11 with fail
              refine wp_region_growV (by kernel_rfl) (by kernel_rfl) ?_
              repeat (refine veil_step (fun K hK => ?_); go_simp; first | (refine hK _ ?_; clear hK K) | (apply Exists.intro; refine ⟨fun Wq => ?_, hK _ ?_⟩; ((go_at_call 68; exact grow_of (HM2.out Wq))); clear hK K))
              refine veil_nil ?_
              intro _ hw'
              obtain ⟨W, rfl⟩ := hw'
              have hb5 := ext_below w4 W
              clear c0 c2 HM2
              have HN5 := Lib.hid (HN.out W)
              have HC5 := Lib.hid (HC4.out.trans (Chg.of_below hb5))
              have HO5 := Lib.hid (HO4.out.now hb5)
              obtain ⟨w5, hw5⟩ : ∃ w5, ext w4 W = w5 := ⟨_, rfl⟩
              rw [hw5] at HN5 HC5 HO5 ⊢
              clear hw5 hb5 HN HC4 HO4 HR4
              go_wp2_with fail
              (with_reducible refine HN5.out.mono ?_)
              rintro _ w6 ⟨rfl, hR6, hC6⟩
              have HO6 := Lib.hid (HO5.out.chg hC6 HR0.out)
              have HC6 := Lib.hid (HC5.out.trans hC6)
              have HR6 := Lib.hid hR6
              have HS6 := Lib.hid HC6.out.size
              clear HN5 HC5 HO5 hR6 hC6
              go_wp2_with (at_builtin; refine wpList_pushC rfl (.tmp 45) (.tmp 48) rfl 34 _ HZ1.out rfl HO6.out rfl (by have := HJ.out; omega) HS6.out ?_; intro v' w7 hA)
              have HA := Lib.hid hA
              clear hA
              go_roundg (s.size - (j1 + 1))
              case measure => have := HJ.out; omega
              case rel =>
                refine ⟨j1 + 1, acc ++ [34], by have := HJ.out; omega, by have := HJ.out; omega, by have := HJ.out; omega, by rw [List.length_append, List.length_singleton]; have := HJ.out; omega, HA.out.own, HR6.out.grown HA.out.grown ?_, HC6.out.more HA.out.grown ?_, HQT.out⟩
                · intro e
                  have := (World.ownsRow.lt HO6.out R e.symm).1
                  have := HR0.out
                  omega
                · intro g hg
                  exact .inl (World.ownsRow.lt HO6.out g hg).1
            · have e3 : ((s[j1].toNat : Int) == 34) = false := by rw [e2]; exact beq_false_of_ne hd
              have HHD : Hid ((s.data.toList.drop (j1)).head? ≠ some 34) := by
                show _ ≠ _
                rw [HDD.out]
                intro e
                have e : some s[j1] = some 34 := e
                injection e with e
                exact hd e
              clear e2 hd HDD HN
              go_upto_region 11 with fail
              refine wp_region_growV (by kernel_rfl) (by kernel_rfl) ?_
              repeat (refine veil_step (fun K hK => ?_); go_simp; first | (refine hK _ ?_; clear hK K) | (apply Exists.intro; refine ⟨fun Wq => ?_, hK _ ?_⟩; ((go_at_call 68; exact grow_of (HM2.out Wq))); clear hK K))
              refine veil_nil ?_
              intro _ hw'
              obtain ⟨W, rfl⟩ := hw'
              have hb5 := ext_below w4 W
              have HR5 : Hid (RdC (ext w4 W) R s sep (j1)) := Blk.now HR4.out hb5
              have HC5 := Lib.hid (HC4.out.trans (Chg.of_below hb5))
              have HO5 := Lib.hid (HO4.out.now hb5)
              obtain ⟨w5, hw5⟩ : ∃ w5, ext w4 W = w5 := ⟨_, rfl⟩
              rw [hw5] at HR5 HC5 HO5 ⊢
              clear hw5 hb5 c0 c2 HR4 HC4 HO4 HM2
              have HE5 := Lib.hid (ends_any R s sep (j1) w5 HR5.out hs)
              have hq : ∃ q, endsAt sep s.data.toList (j1) = q := ⟨_, rfl⟩
              obtain ⟨q, hq⟩ := hq
              rw [hq] at HE5
              have HQ2 : Hid (quotedR sep [] (s.data.toList.drop (i + 1)) = if q = true then .ok acc (s.data.toList.drop (j1)) else .bad (s.data.toList.drop (j1)) 3) := by
                show _ = _
                rw [HQS.out, quotedR_stop HHD.out, ← hq]; rfl
              clear hq HQS
              cases q with
              | false =>
                go_wp2_with fail
                (with_reducible refine HE5.out.mono ?_)
                rintro _ w6 ⟨rfl, hb6⟩
                have HR6 : Hid (RdC w6 R s sep (j1)) := Blk.now HR5.out hb6
                have HC6 := Lib.hid (HC5.out.trans (Chg.of_below hb6))
                clear hb6
                go_wp2_with fail
                go_ret2
                rw [HQ2.out, if_neg (by decide)]
                exact ⟨j1, by have := HJ.out; omega, by have := HJ.out; omega, HR6.out, HC6.out, rfl, by decide, rfl⟩
              | true =>
                go_wp2_with fail
                (with_reducible refine HE5.out.mono ?_)
                rintro _ w6 ⟨rfl, hb6⟩
                have HR6 : Hid (RdC w6 R s sep (j1)) := Blk.now HR5.out hb6
                have HC6 := Lib.hid (HC5.out.trans (Chg.of_below hb6))
                have hcv := (HO5.out.now hb6).conv
                clear hb6
                go_wp2_with fail
                go_ret2
                rw [HQ2.out, if_pos (by first | rfl | trivial)]
                exact ⟨j1, by have := HJ.out; omega, by have := HJ.out; omega, HR6.out, HC6.out, rfl, by have := HJ.out; omega, rfl⟩
          · have HM2 : Hid (∀ W, Calls Tryz.prog 68 #[.pointer (some ⟨R, 0, none⟩)] (ext w4 W) fun e w' => e = .returned (.bool false) ∧ Below (ext w4 W).heap.size (ext w4 W) w') := fun W => by have := HM.out W; rwa [decide_eq_false hj1] at this
            have HHD : Hid ((s.data.toList.drop (j1)).head? ≠ some 34) := by
              show _ ≠ _
              rw [dropEnd (by have := HJ.out; omega)]
              intro e; cases e
            clear HM
            go_upto_region 11 with fail
            refine wp_region_growV (by kernel_rfl) (by kernel_rfl) ?_
            repeat (refine veil_step (fun K hK => ?_); go_simp; first | (refine hK _ ?_; clear hK K) | (apply Exists.intro; refine ⟨fun Wq => ?_, hK _ ?_⟩; ((go_at_call 68; exact grow_of (HM2.out Wq))); clear hK K))
            refine veil_nil ?_
            intro _ hw'
            obtain ⟨W, rfl⟩ := hw'
            have hb5 := ext_below w4 W
            have HR5 : Hid (RdC (ext w4 W) R s sep (j1)) := Blk.now HR4.out hb5
            have HC5 := Lib.hid (HC4.out.trans (Chg.of_below hb5))
            have HO5 := Lib.hid (HO4.out.now hb5)
            obtain ⟨w5, hw5⟩ : ∃ w5, ext w4 W = w5 := ⟨_, rfl⟩
            rw [hw5] at HR5 HC5 HO5 ⊢
            clear hw5 hb5 c0 c2 HR4 HC4 HO4 HM2
            have HE5 := Lib.hid (ends_any R s sep (j1) w5 HR5.out hs)
            have hq : ∃ q, endsAt sep s.data.toList (j1) = q := ⟨_, rfl⟩
            obtain ⟨q, hq⟩ := hq
            rw [hq] at HE5
            have HQ2 : Hid (quotedR sep [] (s.data.toList.drop (i + 1)) = if q = true then .ok acc (s.data.toList.drop (j1)) else .bad (s.data.toList.drop (j1)) 3) := by
              show _ = _
              rw [HQS.out, quotedR_stop HHD.out, ← hq]; rfl
            clear hq HQS
            cases q with
            | false =>
              go_wp2_with fail
              (with_reducible refine HE5.out.mono ?_)
              rintro _ w6 ⟨rfl, hb6⟩
              have HR6 : Hid (RdC w6 R s sep (j1)) := Blk.now HR5.out hb6
              have HC6 := Lib.hid (HC5.out.trans (Chg.of_below hb6))
              clear hb6
              go_wp2_with fail
              go_ret2
              rw [HQ2.out, if_neg (by decide)]
              exact ⟨j1, by have := HJ.out; omega, by have := HJ.out; omega, HR6.out, HC6.out, rfl, by decide, rfl⟩
            | true =>
              go_wp2_with fail
              (with_reducible refine HE5.out.mono ?_)
              rintro _ w6 ⟨rfl, hb6⟩
              have HR6 : Hid (RdC w6 R s sep (j1)) := Blk.now HR5.out hb6
              have HC6 := Lib.hid (HC5.out.trans (Chg.of_below hb6))
              have hcv := (HO5.out.now hb6).conv
              clear hb6
              go_wp2_with fail
              go_ret2
              rw [HQ2.out, if_pos (by first | rfl | trivial)]
              exact ⟨j1, by have := HJ.out; omega, by have := HJ.out; omega, HR6.out, HC6.out, rfl, by have := HJ.out; omega, rfl⟩
        · have e1 : (z != 34) = true := by
            have := HE.out
            rw [beq_false_of_ne h34] at this
            show (!(z == 34)) = true
            rw [this]; rfl
          have HQS : Hid (quotedR sep [] (s.data.toList.drop (i + 1)) = quotedR sep (acc ++ [c]) (s.data.toList.drop (j + 1))) := by show _ = _; rw [HQJ.out, quotedR_chr HQ.out h34]
          clear HE HQJ HDJ h34
          go_wp2_with fail
          (with_reducible refine (HP.out _).mono ?_)
          rintro _ w4 ⟨rfl, rfl⟩
          go_wp2_with fail
          (with_reducible refine HN.out.mono ?_)
          rintro _ w4 ⟨rfl, hR4, hC4⟩
          have HO4 := Lib.hid (HO3.out.chg hC4 HR0.out)
          have HC4 := Lib.hid (HC3.out.trans hC4)
          have HR4 := Lib.hid hR4
          have HS4 := Lib.hid HC4.out.size
          clear HN HO3 HC3 HR3 hC4 hR4
          go_wp2_with (at_builtin; refine wpList_pushC rfl (.tmp 27) (.tmp 29) rfl c _ HZ.out.symm rfl HO4.out rfl (by omega) HS4.out ?_; intro v' w7 hA)
          have HA := Lib.hid hA
          clear hA
          go_roundg (s.size - (j + 1))
          case measure => omega
          case rel =>
            refine ⟨j + 1, acc ++ [c], by omega, by omega, by omega, by rw [List.length_append, List.length_singleton]; omega, HA.out.own, HR4.out.grown HA.out.grown ?_, HC4.out.more HA.out.grown ?_, HQS.out⟩
            · intro e
              have := (World.ownsRow.lt HO4.out R e.symm).1
              have := HR0.out
              omega
            · intro g hg
              exact .inl (World.ownsRow.lt HO4.out g hg).1
    · have HM : Hid (Calls Tryz.prog 68 #[.pointer (some ⟨R, 0, none⟩)] wr fun e w' => e = .returned (.bool false) ∧ Below wr.heap.size wr w') := by have := HMJ.out; rwa [decide_eq_false hj] at this
      have HQF : Hid (quotedR sep [] (s.data.toList.drop (i + 1)) = .bad (s.data.toList.drop j) 4) := by
        show _ = _
        rw [hQ.out, dropEnd (by omega)]; rfl
      clear HMJ
      go_wp2_with fail
      (with_reducible refine HM.out.mono ?_)
      rintro _ w2 ⟨rfl, hb2⟩
      have HR2 : Hid (RdC w2 R s sep j) := Blk.now HRj.out hb2
      have HC2 := Lib.hid (HC.out.trans (Chg.of_below hb2))
      clear hb2
      go_wp2_with fail
      go_ret2
      rw [HQF.out]
      exact ⟨j, by omega, hjs, HR2.out, HC2.out, rfl, by decide, rfl⟩
end Go.Proofs.YtoalecalahkblaaGreatDoor

set_option linter.all false
namespace Go.Proofs.YtoalecalahkblaaGreatDoor
open Go.RowKit
theorem plainR_end {sep : UInt8} {acc t : Bt} (h : endsB sep t = true) : plainR sep acc t = .ok acc t := by
  cases t with
  | nil => rfl
  | cons c r =>
    unfold plainR
    unfold endsB at h
    simp only [Bool.or_eq_true, beq_iff_eq] at h
    rw [if_pos h]
theorem plainR_bad {sep c : UInt8} {acc r : Bt} (h : endsB sep (c :: r) = false) (h2 : printB c = false ∨ c = 34) : plainR sep acc (c :: r) = .bad (c :: r) 3 := by
  have h : (c == 10 || c == sep) = false := h
  unfold plainR
  rw [if_neg (by intro e; rw [show (c == 10 || c == sep) = true by simpa using e] at h; cases h), if_pos h2]
theorem plainR_chr {sep c : UInt8} {acc r : Bt} (h : endsB sep (c :: r) = false) (h2 : printB c = true) (h3 : c ≠ 34) : plainR sep acc (c :: r) = plainR sep (acc ++ [c]) r := by
  have h : (c == 10 || c == sep) = false := h
  conv => lhs; unfold plainR
  rw [if_neg (by intro e; rw [show (c == 10 || c == sep) = true by simpa using e] at h; cases h), if_neg (by rintro (e | e); (rw [h2] at e; cases e); exact h3 e)]
theorem cellR_quote {sep : UInt8} {r : Bt} : cellR sep (34 :: r) = quotedR sep [] r := rfl
theorem cellR_plain {sep : UInt8} {t : Bt} (h : t.head? ≠ some 34) : cellR sep t = plainR sep [] t := by
  unfold cellR
  split
  · exact absurd rfl h
  · rfl
theorem takeStep {s : ByteArray} {i j : Nat} (h : j < s.size) (hij : i ≤ j) : (s.data.toList.drop i).take (j + 1 - i) = (s.data.toList.drop i).take (j - i) ++ [s[j]] := by
  have hl : j - i < (s.data.toList.drop i).length := by rw [List.length_drop]; have := (rdByte h).1; omega
  rw [show j + 1 - i = (j - i) + 1 by omega, List.take_succ_eq_append_getElem hl]
  congr 2
  rw [List.getElem_drop]
  have e : i + (j - i) = j := by omega
  simp only [e]
  exact (rdByte h).2 _
theorem extBs (s : ByteArray) (a b : Nat) : s.extract a b = bsOf ((s.data.toList.drop a).take (b - a)) := by
  rw [← bs_of (s.extract a b)]
  congr 1
  rw [ByteArray.data_extract, Array.toList_extract, List.extract_eq_take_drop]
set_option maxHeartbeats 8000000 in
set_option maxRecDepth 100000 in
theorem cell_any (R : Nat) (s : ByteArray) (sep : UInt8) (i : Nat) (w : World) (h : RdC w R s sep i) (hs : s.size ≤ 16384) (his : i ≤ s.size) :
    Calls Tryz.prog 69 #[.pointer (some ⟨R, 0, none⟩)] w (RetCell R s sep i (cellR sep (s.data.toList.drop i)) w) := by
  have HR := Lib.hid h
  have h' : Blk w R 107 (rdrCells s sep i (plAt s.data.toList i)) := h
  have HM : Hid (∀ W, Calls Tryz.prog 68 #[.pointer (some ⟨R, 0, none⟩)] (ext w W) fun e w' => e = .returned (.bool (decide (i < s.size))) ∧ Below (ext w W).heap.size (ext w W) w') := fun W => more_any R s sep i (ext w W) (h'.now (ext_below w W)) hs
  obtain ⟨p1, p2⟩ := plAt s.data.toList i
  have cc := fun W => (h'.now (ext_below w W)).c5
  have c0 := fun W => (cc W).1
  have c2 := fun W => (cc W).2.2.1
  clear cc h' h
  have i0 : (0 : Int) ≤ (i : Int) := by omega
  -- the rest, where the cell is not quoted
  have HPL : Hid ((s.data.toList.drop i).head? ≠ some 34 → cellR sep (s.data.toList.drop i) = plainR sep [] (s.data.toList.drop i)) := fun h => cellR_plain h
  by_cases hq : ∃ hi : i < s.size, s[i] = 34
  · obtain ⟨hi, hq⟩ := hq
    have i2 : (i : Int) < (s.size : Int) := by omega
    have HM2 : Hid (∀ W, Calls Tryz.prog 68 #[.pointer (some ⟨R, 0, none⟩)] (ext w W) fun e w' => e = .returned (.bool true) ∧ Below (ext w W).heap.size (ext w W) w') := fun W => by have := HM.out W; rwa [decide_eq_true hi] at this
    have e1 : ((s[i].toNat : Int) == 34) = true := by rw [hq]; rfl
    have HQ : Hid (cellR sep (s.data.toList.drop i) = quotedR sep [] (s.data.toList.drop (i + 1))) := by
      show _ = _
      rw [dropAt hi, hq, cellR_quote]
    have HQC := Lib.hid (fun W => quoted_any R s sep i (ext w W) (Blk.now HR.out (ext_below w W)) hs hi)
    clear HM hq HPL
    go_enter Tryz.func69, Tryz.ntmps69
    go_upto_region 1 with fail
    refine wp_region_growV (by kernel_rfl) (by kernel_rfl) ?_
    repeat (refine veil_step (fun K hK => ?_); go_simp; first | (refine hK _ ?_; clear hK K) | (apply Exists.intro; refine ⟨fun Wq => ?_, hK _ ?_⟩; ((go_at_call 68; exact grow_of (HM2.out Wq))); clear hK K))
    refine veil_nil ?_
    intro _ hw'
    obtain ⟨W, rfl⟩ := hw'
    have HQ5 := Lib.hid (HQC.out W)
    have HC5 := Lib.hid (Chg.of_below (S := One R) (ext_below w W))
    obtain ⟨w5, hw5⟩ : ∃ w5, ext w W = w5 := ⟨_, rfl⟩
    rw [hw5] at HQ5 HC5 ⊢
    clear hw5 c0 c2 HM2 HQC HR
    go_wp2_with fail
    (with_reducible refine HQ5.out.mono ?_)
    rintro e w6 hret
    have HRET := Lib.hid hret
    obtain ⟨j, hij, hjs, hR6, hC6, hm⟩ := hret
    have HF : Hid (RetCell R s sep i (cellR sep (s.data.toList.drop i)) w e w6) := by
      show RetCell _ _ _ _ _ _ _ _
      rw [HQ.out]
      exact ⟨j, hij, hjs, hR6, HC5.out.trans hC6, hm⟩
    clear HQ5 HQ HRET HC5 hR6 hC6
    obtain ⟨x, y, rfl⟩ : ∃ x y, e = .returned (.tuple #[x, y]) := by
      generalize quotedR sep [] (s.data.toList.drop (i + 1)) = cr at hm
      cases cr with
      | ok b rest => exact ⟨_, _, hm.2.2⟩
      | bad rest k => exact ⟨_, _, hm.2.2⟩
    clear hm
    go_wp2_with fail
    go_ret2
    exact HF.out
  · have HPL2 : Hid (cellR sep (s.data.toList.drop i) = plainR sep [] (s.data.toList.drop i)) := HPL.out (by
      intro e
      rcases Nat.lt_or_ge i s.size with hi | hi
      · rw [headDrop hi] at e
        injection e with e
        exact hq ⟨hi, e⟩
      · rw [dropEnd hi] at e; cases e)
    clear HPL
    go_enter Tryz.func69, Tryz.ntmps69
    go_upto_region 1 with fail
    go_cut [19] from 6 to 19 (fun b W => b = .bool false ∧ Below w.heap.size w W)
    case first =>
      by_cases hi : i < s.size
      · have i2 : (i : Int) < (s.size : Int) := by omega
        have HM2 : Hid (∀ W, Calls Tryz.prog 68 #[.pointer (some ⟨R, 0, none⟩)] (ext w W) fun e w' => e = .returned (.bool true) ∧ Below (ext w W).heap.size (ext w W) w') := fun W => by have := HM.out W; rwa [decide_eq_true hi] at this
        have e1 : ((s[i].toNat : Int) == 34) = false := by
          rw [beqI s[i] 34 34 rfl]
          exact beq_false_of_ne fun e => hq ⟨hi, e⟩
        clear HM hq
        refine wp_region_growV (by kernel_rfl) (by kernel_rfl) ?_
        repeat (refine veil_step (fun K hK => ?_); go_simp; first | (refine hK _ ?_; clear hK K) | (apply Exists.intro; refine ⟨fun Wq => ?_, hK _ ?_⟩; ((go_at_call 68; exact grow_of (HM2.out Wq))); clear hK K))
        refine veil_nil ?_
        intro _ hw'
        obtain ⟨W, rfl⟩ := hw'
        go_wp2_with fail
        go_meet
        exact ⟨rfl, ext_below w W⟩
      · have HM2 : Hid (∀ W, Calls Tryz.prog 68 #[.pointer (some ⟨R, 0, none⟩)] (ext w W) fun e w' => e = .returned (.bool false) ∧ Below (ext w W).heap.size (ext w W) w') := fun W => by have := HM.out W; rwa [decide_eq_false hi] at this
        clear HM hq
        refine wp_region_growV (by kernel_rfl) (by kernel_rfl) ?_
        repeat (refine veil_step (fun K hK => ?_); go_simp; first | (refine hK _ ?_; clear hK K) | (apply Exists.intro; refine ⟨fun Wq => ?_, hK _ ?_⟩; ((go_at_call 68; exact grow_of (HM2.out Wq))); clear hK K))
        refine veil_nil ?_
        intro _ hw'
        obtain ⟨W, rfl⟩ := hw'
        go_wp2_with fail
        go_meet
        exact ⟨rfl, ext_below w W⟩
    obtain ⟨rfl, hb1⟩ := hcut
    clear c0 c2 HM hq
    have HR1 : Hid (RdC _ R s sep i) := Blk.now HR.out hb1
    have HC1 := Lib.hid (Chg.of_below (S := One R) hb1)
    have hB1 : Blk _ R 107 (rdrCells s sep i (plAt s.data.toList i)) := HR1.out
    obtain ⟨c0, c1, c2, c3, c4⟩ := hB1.c5
    clear HR hb1 hB1
    go_wp2_with fail
    clear c0 c1 c2 c3 c4
    go_loopg [] s.size (fun g1 wr => ∃ j : Nat, i ≤ j ∧ j ≤ s.size ∧ s.size ≤ g1 + j ∧ RdC wr R s sep j ∧ Chg (One R) w wr ∧ Hid (plainR sep [] (s.data.toList.drop i) = plainR sep ((s.data.toList.drop i).take (j - i)) (s.data.toList.drop j)))
    case atStart => exact ⟨i, Nat.le_refl _, his, by omega, HR1.out, HC1.out, by show _ = _; rw [Nat.sub_self, List.take_zero]⟩
    case round =>
      obtain ⟨j, hij, hjs, hg, hR, hC, hQ⟩ := hrel
      have HRj := Lib.hid hR
      have HC := Lib.hid hC
      have HEJ := Lib.hid (ends_any R s sep j wr hR hs)
      clear hR hC
      obtain ⟨q, hq⟩ : ∃ q, endsAt sep s.data.toList j = q := ⟨_, rfl⟩
      rw [hq] at HEJ
      cases q with
      | false =>
        have hj : j < s.size := by
          rcases Nat.lt_or_ge j s.size with h | h
          · exact h
          · rw [endsAt_end (by simpa using h)] at hq; cases hq
        have HED : Hid (endsB sep (s[j] :: s.data.toList.drop (j + 1)) = false) := by
          show _ = _
          rw [← dropAt hj]; exact hq
        go_wp2_with fail
        (with_reducible refine HEJ.out.mono ?_)
        rintro _ w2 ⟨rfl, hb2⟩
        have hR2 := Blk.now HRj.out hb2
        have hC2 := HC.out.trans (Chg.of_below hb2)
        clear HEJ hb2 HRj HC hq
        have i1 : (0 : Int) ≤ (j : Int) := by omega
        have i2 : (j : Int) < (s.size : Int) := by omega
        obtain ⟨c0, c1, c2, c3, c4⟩ := hR2.c5
        go_upto_region 5 with fail
        go_quiet (fail)
        obtain ⟨w3, hw3⟩ : ∃ w3, w2.drewN nq = w3 := ⟨_, rfl⟩
        have hb3 : Below w2.heap.size w2 w3 := by rw [← hw3]; exact bdrawn (Below.refl _ _) _
        have HR3 : Hid (RdC w3 R s sep j) := Blk.now hR2 hb3
        have HC3 := Lib.hid (hC2.trans (Chg.of_below hb3))
        rw [hw3]
        clear hw3 hb3 hR2 hC2 c0 c1 c2 c3 c4
        have HN := Lib.hid (next_any R s sep j w3 HR3.out hs hj)
        have HST := Lib.hid (takeStep hj hij)
        have HDJ := Lib.hid (dropAt hj)
        generalize s[j] = c at *
        have HP := Lib.hid (printable_any c)
        have HE := Lib.hid (beqI c 34 34 rfl)
        obtain ⟨q, hq⟩ : ∃ q, printB c = q := ⟨_, rfl⟩
        rw [hq] at HP
        obtain ⟨z, hz⟩ : ∃ z, (c.toNat : Int) = z := ⟨_, rfl⟩
        rw [hz] at HP HE HN ⊢
        clear hz
        cases q with
        | false =>
          have HQF : Hid (plainR sep [] (s.data.toList.drop i) = .bad (s.data.toList.drop j) 3) := by
            show _ = _
            rw [hQ.out, HDJ.out, plainR_bad HED.out (.inl hq)]
          clear HN HDJ HE hq
          go_wp2_with fail
          (with_reducible refine (HP.out _).mono ?_)
          rintro _ w4 ⟨rfl, rfl⟩
          go_wp2_with fail
          go_ret2
          rw [HPL2.out, HQF.out]
          exact ⟨j, by omega, hjs, HR3.out, HC3.out, rfl, by decide, rfl⟩
        | true =>
          have HQ := Lib.hid hq
          clear hq
          by_cases h34 : c = 34
          · have e1 : (z == 34) = true := by
              have := HE.out
              rw [h34] at this
              rw [this]; rfl
            have HQF : Hid (plainR sep [] (s.data.toList.drop i) = .bad (s.data.toList.drop j) 3) := by
              show _ = _
              rw [hQ.out, HDJ.out, plainR_bad HED.out (.inr h34)]
            clear HN HDJ HE h34
            go_wp2_with fail
            (with_reducible refine (HP.out _).mono ?_)
            rintro _ w4 ⟨rfl, rfl⟩
            go_wp2_with fail
            go_ret2
            rw [HPL2.out, HQF.out]
            exact ⟨j, by omega, hjs, HR3.out, HC3.out, rfl, by decide, rfl⟩
          · have e1 : (z == 34) = false := by
              have := HE.out
              rw [beq_false_of_ne h34] at this
              exact this
            have HQS : Hid (plainR sep [] (s.data.toList.drop i) = plainR sep ((s.data.toList.drop i).take (j + 1 - i)) (s.data.toList.drop (j + 1))) := by
              show _ = _
              rw [hQ.out, HDJ.out, plainR_chr HED.out HQ.out h34, HST.out]
            clear HE HDJ h34
            go_wp2_with fail
            (with_reducible refine (HP.out _).mono ?_)
            rintro _ w4 ⟨rfl, rfl⟩
            go_wp2_with fail
            (with_reducible refine HN.out.mono ?_)
            rintro _ w4 ⟨rfl, hR4, hC4⟩
            have HR4 := Lib.hid hR4
            have HC4 := Lib.hid (HC3.out.trans hC4)
            clear hR4 hC4 HN
            go_wp2_with fail
            go_roundg (s.size - (j + 1))
            case measure => omega
            case rel => exact ⟨j + 1, by omega, by omega, by omega, HR4.out, HC4.out, HQS.out⟩
      | true =>
        have HQF : Hid (plainR sep [] (s.data.toList.drop i) = .ok ((s.data.toList.drop i).take (j - i)) (s.data.toList.drop j)) := by
          show _ = _
          rw [hQ.out, plainR_end hq]
        clear hq
        go_wp2_with fail
        (with_reducible refine HEJ.out.mono ?_)
        rintro _ w2 ⟨rfl, hb2⟩
        have hR2 := Blk.now HRj.out hb2
        have hC2 := HC.out.trans (Chg.of_below hb2)
        clear HEJ hb2 HRj HC
        have i1 : (0 : Int) ≤ (i : Int) := by omega
        have i2 : (i : Int) ≤ (j : Int) := by omega
        have i3 : (j : Int) ≤ (s.size : Int) := by omega
        obtain ⟨c0, c1, c2, c3, c4⟩ := hR2.c5
        have HEX := Lib.hid (extBs s i j)
        go_upto_region 9 with fail
        go_quiet (fail)
        go_wp2_with fail
        go_ret2
        rw [HPL2.out, HQF.out]
        refine ⟨j, hij, hjs, hR2.drewN _, hC2.trans (Chg.of_below (bdrawn (Below.refl _ _) _)), rfl, ?_, ?_⟩
        · rw [List.length_take, List.length_drop]
          have : s.data.toList.length = s.size := by simp
          omega
        · rw [← HEX.out]; rfl
end Go.Proofs.YtoalecalahkblaaGreatDoor
