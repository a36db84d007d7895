/- Texts of this seat, merged. -/
import Derived.Maps.AppendAt
import Derived.Deep.AppendLies
import Derived.RegionTactic
import Derived.OwnWalk
import Derived.Test.YtoalecalahkblaaGreatDoorIw01
import Derived.WalkKit
import Derived.WalkSpells
import Derived.WalkLawsBesides
import Derived.Lib.Hide
import Derived.Deep.Draws
import Derived.Deep.OwnRows
import Derived.Test.YtoalecalahkblaaGreatDoorProg
import Derived.Outline
import Derived.Shelf.Abstract
import Derived.Deep.Light
import Derived.Test.YtoalecalahkblaaGreatDoorIw02
import Derived.Laws.BytesString
import Derived.Laws.IdiomStrings
import Derived.Test.YtoalecalahkblaaGreatDoorIw07
import Derived.Shelf.Strings.Builder1
import Derived.Shelf.Strings.Builder2
import Derived.Shelf.Small.Bits
import Derived.Shelf.Small.Strs
import Derived.Shelf.Small.Wraps
import Derived.Shelf.Strings.BuilderF
import Derived.Shelf.Strings.BuilderK
import Derived.Shelf.Strings.Builder2Cap
import Derived.Shelf.Strconv.Atoi
import Derived.Shelf.Strconv.Itoa0
import Derived.Shelf.Strconv.Itoa1
import Derived.Shelf.LaysM
import Derived.Shelf.Strconv.Itoa2
import Derived.Shelf.Strconv.Itoa3
import Derived.Shelf.Strconv.AtoiErrFast
import Derived.Shelf.Strconv.ParseIntEmpty
import Derived.Shelf.Strconv.AtoiFail
import Derived.Shelf.Strconv.Clone
import Derived.Shelf.Strconv.SyntaxError
import Derived.Shelf.LaysC
import Derived.Shelf.Strconv.ToError
import Derived.Shelf.Strconv.Lower
import Derived.Shelf.Strconv.ParseUint10
import Derived.Shelf.Strconv.ParseUint10Empty
import Derived.Shelf.Strconv.ParseUint10Any
import Derived.Shelf.Strconv.ParseInt10
import Derived.Shelf.Strconv.AtoiLong
import Derived.Shelf.Strconv.AtoiInnerAll
import Derived.Shelf.Strconv.RangeError
import Derived.Shelf.Strconv.ToErrorRange
import Derived.Shelf.Strconv.AtoiAll
import Derived.Shelf.Strconv.ErrVarAll
import Derived.Shelf.Strings.Search1
import Derived.Shelf.Strings.Search2
import Derived.Shelf.Strings.Search3
import Derived.Shelf.Strings.Count
import Derived.Shelf.Strings.Shaped
import Derived.Shelf.Sort.Plain
import Derived.Shelf.Strings.Prefix
import Derived.Shelf.Strings.Split
import Derived.Shelf.Strings.Replace
import Derived.Shelf.Unicode.DecodeSlow
import Derived.Shelf.Strings.BuilderCap
import Derived.Shelf.Slices.Turned
import Derived.Ground.Names2Prog
import Derived.Shelf.Slices.Clone
import Derived.Shelf.Slices.CompactS
import Derived.Shelf.Slices.Cells
import Derived.Shelf.Slices.In.SortNone
import Derived.Ground.SlgnProg
import Derived.Shelf.SlicesE.Compact
import Derived.Shelf.SlicesE.Clone
import Derived.Ground.SlgfProg
import Derived.Shelf.SlicesE.IndexFunc
import Derived.Shelf.SlicesE.DeleteFunc
import Derived.StillTailTactics
import Derived.Deep.CutRange
import Derived.Deep.CutBlock
import Derived.Test.YtoalecalahkblaaGreatDoorIw03
import Derived.Deep.QuietTactic
import Derived.BigQuiet
import Derived.Test.YtoalecalahkblaaGreatDoorIw04
import Derived.Lib.SlicesCompact
import Derived.Lib.OwnKind
import Derived.Test.YtoalecalahkblaaGreatDoorIw06
import Derived.Test.YtoalecalahkblaaGreatDoorIw05
import Derived.Lib.AppendStr
import Derived.Lib.OthersKept
import Derived.Lib.UnsafeStr
import Derived.Deep.RegionHeld
import Derived.Deep.RegionHeld3
import Derived.Orders
import Derived.Deep.Quiet
import Derived.StillTail
set_option linter.all false
namespace Go.Proofs.YtoalecalahkblaaGreatDoor
open Go.RowKit
section
variable {α : Type} {R : ElemR α} {D : Nat → Prop} {w : World} {base t size n : Nat} {v : Value} {cs : List Value} {xs : List α}
end
section
variable {w : World} {base t n : Nat} {v : Value}
end
section
variable {w w' : World} {base t g cap : Nat} {zs : List Int}
theorem OwnI.from_ (h : OwnI w base t g cap zs) : base ≤ g := h.2.2
end
section
variable {P : Program} {t e size base : Nat}
end
end Go.Proofs.YtoalecalahkblaaGreatDoor

namespace Go.Proofs.YtoalecalahkblaaGreatDoor
open Go.RowKit
theorem bs_list (l : List UInt8) : (bsOf l).data.toList = l := rfl
theorem own_slP {w : World} {base t : Nat} {v : Value} {ls : List Bt} (h : w.ownsRow base t 1 v ls.length (ls.map fun l => Value.string (bsOf l))) (hf : ∀ l ∈ ls, l.length ≤ maxLen) : SlP (Lt w.heap.size) w v ls := by
  have e : (ls.map fun l => Value.string (bsOf l)) = (ls.map bsOf).map Value.string := by rw [List.map_map]; rfl
  rw [e] at h
  have hl : ls.length = (ls.map bsOf).length := by rw [List.length_map]
  rw [hl] at h
  refine SlS.of_own h fun s hs => ?_
  obtain ⟨l, hl, rfl⟩ := List.mem_map.1 hs
  rw [bs_size]; exact hf l hl
end Go.Proofs.YtoalecalahkblaaGreatDoor

namespace Go.Proofs.YtoalecalahkblaaGreatDoor
open Go.RowKit
theorem findIdx_map {α β : Type} (f : α → β) (p : β → Bool) : ∀ xs : List α, firstF p (xs.map f) = firstF (fun x => p (f x)) xs := by
  intro xs
  unfold firstF
  rw [List.findIdx?_map]
  rfl
end Go.Proofs.YtoalecalahkblaaGreatDoor

namespace Go.Proofs.YtoalecalahkblaaGreatDoor
open Go.RowKit
set_option maxHeartbeats 400000 in
theorem letter_ref (c : Int) (w : World) : Calls Tryz.prog 125 #[.int .u8 c] w fun e w' => e = .returned (.bool (letterB c)) ∧ w = w' := by
  by_cases h1 : 65 ≤ c <;> by_cases h2 : c ≤ 90 <;> by_cases h3 : 97 ≤ c <;> by_cases h4 : c ≤ 122
  all_goals first
    | (exfalso; omega)
    | (go_enter Tryz.func125, Tryz.ntmps125
       go_wp2
       go_ret
       exact ⟨ret_bool (by first | exact (letter_yes (by omega)).symm | exact (letter_no (by omega)).symm), rfl⟩)
set_option maxHeartbeats 400000 in
theorem isName_ref (s : ByteArray) (w : World) (hs : s.size ≤ maxLen) : Calls Tryz.prog 80 #[.string s] w fun e w' => e = .returned (.bool (isNameB s)) ∧ w = w' := by
  unfold maxLen at hs
  by_cases h1 : 1 ≤ s.size
  · by_cases h2 : s.size ≤ 40
    · cases hl : letterB (byteAt s 0) with
      | false =>
        have HE := Lib.hid (isName_first hl)
        have HC : Hid (∀ w, Calls Tryz.prog 125 #[.int .u8 (s[0].toNat : Int)] w fun e w' => e = .returned (.bool false) ∧ w = w') := fun w => by
          have := letter_ref (byteAt s 0) w; rwa [hl, byteAt_eq s 0 (by omega)] at this
        clear hl
        go_enter Tryz.func80, Tryz.ntmps80
        go_wp2_with (go_at_call 125; refine (HC.out _).mono ?_; rintro e w' ⟨rfl, rfl⟩)
        go_ret
        exact ⟨ret_bool HE.out.symm, rfl⟩
      | true =>
        have HL := Lib.hid hl
        have HC : Hid (∀ w, Calls Tryz.prog 125 #[.int .u8 (s[0].toNat : Int)] w fun e w' => e = .returned (.bool true) ∧ w = w') := fun w => by
          have := letter_ref (byteAt s 0) w; rwa [hl, byteAt_eq s 0 (by omega)] at this
        clear hl
        go_enter Tryz.func80, Tryz.ntmps80
        go_wp2_with (go_at_call 125; refine (HC.out _).mono ?_; rintro e w' ⟨rfl, rfl⟩)
        go_loop [3] (fun i => ∃ k : Nat, 1 ≤ k ∧ k ≤ s.size ∧ i = .int .i64 k ∧ ∀ j, j < k → partB (byteAt s j) = true) (fun i => s.size - (intOf i).toNat)
        case atStart => exact ⟨1, Nat.le_refl _, by omega, rfl, fun j hj => by rw [show j = 0 from by omega]; exact part_letter HL.out⟩
        case round =>
          obtain ⟨k, hk0, hk, rfl, hp⟩ := hrel
          have HP := Lib.hid hp
          clear hp
          by_cases hlt : k < s.size
          · have hby := byteAt_eq s k hlt
            cases hq : letterB (byteAt s k) with
            | true =>
              have HQ := Lib.hid (part_letter hq)
              have HD : Hid (∀ w, Calls Tryz.prog 125 #[.int .u8 (s[k].toNat : Int)] w fun e w' => e = .returned (.bool true) ∧ w = w') := fun w => by
                have := letter_ref (byteAt s k) w; rwa [hq, hby] at this
              clear hq hby
              go_wp2_with (go_at_call 125; refine (HD.out _).mono ?_; rintro e w' ⟨rfl, rfl⟩)
              go_round
              case rel => exact ⟨k + 1, by omega, by omega, by go_num, fun j hj => by
                by_cases e : j = k
                · subst e; exact HQ.out
                · exact HP.out j (by omega)⟩
              case measure => simp [intOf]; omega
            | false =>
              have HQ := Lib.hid (part_other hq)
              have HD : Hid (∀ w, Calls Tryz.prog 125 #[.int .u8 (s[k].toNat : Int)] w fun e w' => e = .returned (.bool false) ∧ w = w') := fun w => by
                have := letter_ref (byteAt s k) w; rwa [hq, hby] at this
              have HY : Hid (partB (byteAt s k) = (decide (48 ≤ (s[k].toNat : Int) ∧ (s[k].toNat : Int) ≤ 57) || decide ((s[k].toNat : Int) = 95) || decide ((s[k].toNat : Int) = 45) || decide ((s[k].toNat : Int) = 46))) := by rw [← hby]; exact HQ.out
              clear hq hby HQ
              go_wp2_with (go_at_call 125; refine (HD.out _).mono ?_; rintro e w' ⟨rfl, rfl⟩)
              all_goals first
                | (go_ret
                   exact ⟨ret_bool (isName_bad hlt (by rw [HY.out]; go_light; simp at *; omega)).symm, rfl⟩)
                | (go_round
                   case rel => exact ⟨k + 1, by omega, by omega, by go_num, fun j hj => by
                     by_cases e : j = k
                     · subst e; rw [HY.out]; go_light; simp at *; omega
                     · exact HP.out j (by omega)⟩
                   case measure => simp [intOf]; omega)
          · go_wp2_with fail
            go_ret
            exact ⟨ret_bool (isName_ok h1 h2 HL.out (fun j hj => HP.out j (by omega))).symm, rfl⟩
    · have HE := Lib.hid (isName_size (s := s) (by omega))
      go_enter Tryz.func80, Tryz.ntmps80
      go_wp2_with fail
      go_ret
      exact ⟨ret_bool HE.out.symm, rfl⟩
  · have HE := Lib.hid (isName_size (s := s) (by omega))
    go_enter Tryz.func80, Tryz.ntmps80
    go_wp2_with fail
    go_ret
    exact ⟨ret_bool HE.out.symm, rfl⟩
end Go.Proofs.YtoalecalahkblaaGreatDoor

namespace Go.Proofs.YtoalecalahkblaaGreatDoor
open Go.RowKit
theorem findB_bound (ws cells : List Bt) : -1 ≤ findB ws cells ∧ findB ws cells < cells.length := by
  unfold findB
  cases h : cells.findIdx? (fun s => decide (smallB s ∈ ws)) with
  | none => exact ⟨Int.le_refl _, by simp only; omega⟩
  | some i =>
    have := (List.findIdx?_eq_some_iff_getElem.1 h).1
    simp only; omega
theorem findB_word {ws cells : List Bt} {i : Nat} (h : findB ws cells = (i : Int)) : ∃ s, cells[i]? = some s ∧ smallB s ∈ ws := by
  unfold findB at h
  cases e : cells.findIdx? (fun s => decide (smallB s ∈ ws)) with
  | none => rw [e] at h; simp only at h; omega
  | some j =>
    rw [e] at h
    simp only at h
    have hj : j = i := by omega
    subst hj
    obtain ⟨h1, h2, _⟩ := List.findIdx?_eq_some_iff_getElem.1 e
    exact ⟨cells[j], List.getElem?_eq_getElem h1, of_decide_eq_true h2⟩
theorem findB_ne {us vs cells : List Bt} (hd : ∀ x ∈ us, x ∉ vs) (h0 : 0 ≤ findB us cells) : findB us cells ≠ findB vs cells := by
  intro h
  obtain ⟨i, hi⟩ : ∃ i : Nat, findB us cells = (i : Int) := ⟨(findB us cells).toNat, by omega⟩
  obtain ⟨s, h1, h2⟩ := findB_word hi
  obtain ⟨t, h3, h4⟩ := findB_word (h ▸ hi)
  rw [h1] at h3
  injection h3 with h3
  subst h3
  exact hd _ h2 h4
theorem pick_ok {taken : List Int} (N : Nat) : ∀ (r : List Bt) (i : Nat) (seen : List Bt) (data : List Int), i + r.length = N → data.length ≤ 8 → data.Nodup → (∀ k ∈ data, 0 ≤ k ∧ k < (i : Int) ∧ k ∉ taken) →
    (pickB taken i seen data r).length ≤ 8 ∧ (pickB taken i seen data r).Nodup ∧ ∀ k ∈ pickB taken i seen data r, 0 ≤ k ∧ k < (N : Int) ∧ k ∉ taken
  | [], i, seen, data, hN, hl, hn, hd => by
    have hN : i = N := by simpa using hN
    subst hN
    exact ⟨hl, hn, hd⟩
  | s :: r, i, seen, data, hN, hl, hn, hd => by
    have hN' : i + 1 + r.length = N := by rw [List.length_cons] at hN; omega
    have hd' : ∀ k ∈ data, 0 ≤ k ∧ k < ((i + 1 : Nat) : Int) ∧ k ∉ taken := fun k hk => by
      obtain ⟨a, b, c⟩ := hd k hk
      exact ⟨a, by omega, c⟩
    unfold pickB
    by_cases h : data.length = 8 ∨ (i : Int) ∈ taken ∨ isNameB ⟨s.toArray⟩ = false ∨ s ∈ seen
    · rw [if_pos h]
      exact pick_ok N r (i + 1) seen data hN' hl hn hd'
    · rw [if_neg h]
      have h1 : data.length ≠ 8 := fun e => h (.inl e)
      have h2 : (i : Int) ∉ taken := fun e => h (.inr (.inl e))
      refine pick_ok N r (i + 1) (seen ++ [s]) (data ++ [(i : Int)]) hN' (by rw [List.length_append, List.length_singleton]; omega) ?_ ?_
      · rw [List.nodup_append]
        refine ⟨hn, by simp, ?_⟩
        intro a ha b hb e
        rw [List.mem_singleton] at hb
        have := (hd a ha).2.1
        omega
      · intro k hk
        rcases List.mem_append.1 hk with hk | hk
        · exact hd' k hk
        · rw [List.mem_singleton] at hk
          subst hk
          exact ⟨by omega, by omega, h2⟩
theorem guess_valid {W : Wds} (hW : Apart W) {cells : List Bt} (h : (guessE W cells).2 = 0) : mapB (guessE W cells).1 = true := by
  unfold guessE at h ⊢
  by_cases h1 : 40 < cells.length
  · rw [if_pos h1] at h; exact absurd h (by decide)
  rw [if_neg h1] at h ⊢
  simp only at h ⊢
  by_cases h2 : findB W.cas cells < 0 ∨ findB W.act cells < 0 ∨ findB W.time cells < 0
  · rw [if_pos h2] at h; exact absurd h (by decide)
  rw [if_neg h2] at h ⊢
  have hc := findB_bound W.cas cells
  have ha := findB_bound W.act cells
  have hr := findB_bound W.res cells
  have hl := findB_bound W.life cells
  have ht := findB_bound W.time cells
  have hc0 : 0 ≤ findB W.cas cells := by omega
  have ha0 : 0 ≤ findB W.act cells := by omega
  have ht0 : 0 ≤ findB W.time cells := by omega
  have n1 := findB_ne hW.ca hc0
  have n2 := findB_ne hW.cr hc0
  have n3 := findB_ne hW.cl hc0
  have n4 := findB_ne hW.ct hc0
  have n5 := findB_ne hW.ar ha0
  have n6 := findB_ne hW.al ha0
  have n7 := findB_ne hW.at_ ha0
  have n8 := findB_ne hW.tr ht0
  have n9 := findB_ne hW.tl ht0
  have n10 : 0 ≤ findB W.res cells → findB W.res cells ≠ findB W.life cells := fun h => findB_ne hW.rl h
  obtain ⟨p1, p2, p3⟩ := pick_ok (taken := fieldsB ⟨findB W.cas cells, findB W.act cells, findB W.res cells, findB W.life cells, findB W.time cells, [], [], 44⟩) cells.length cells 0 [] [] (by simp) (by simp) (by simp) (fun k hk => by simp at hk)
  unfold fieldsB at p1 p2 p3 ⊢
  generalize findB W.cas cells = c at *
  generalize findB W.act cells = a at *
  generalize findB W.res cells = r at *
  generalize findB W.life cells = l at *
  generalize findB W.time cells = t at *
  simp only at p1 p2 p3 ⊢
  generalize pickB (List.filter (fun k => decide (0 ≤ k)) [c, a, r, l, t]) 0 [] [] cells = d at *
  have q : ∀ k ∈ d, 0 ≤ k ∧ k < 40 ∧ k ≠ c ∧ k ≠ a ∧ k ≠ t ∧ k ≠ r ∧ k ≠ l := fun k hk => by
    obtain ⟨q1, q2, q3⟩ := p3 k hk
    have hin : ∀ x, x ∈ [c, a, r, l, t] → k ≠ x := fun x hx e => q3 (List.mem_filter.2 ⟨e ▸ hx, decide_eq_true q1⟩)
    exact ⟨q1, by omega, hin c (by simp), hin a (by simp), hin t (by simp), hin r (by simp), hin l (by simp)⟩
  unfold mapB colsB
  simp only [Bool.and_eq_true, decide_eq_true_eq, List.length_replicate]
  refine ⟨⟨⟨⟨⟨by decide, p1⟩, trivial⟩, ?_⟩, ?_⟩, ?_⟩
  · rw [List.all_eq_true]
    intro k hk
    rw [Bool.and_eq_true, decide_eq_true_eq, decide_eq_true_eq]
    rw [List.mem_append, List.mem_append, List.mem_append] at hk
    rcases hk with ((hk | hk) | hk) | hk
    · simp only [List.mem_cons, List.not_mem_nil, or_false] at hk
      rcases hk with rfl | rfl | rfl <;> omega
    · have := q k hk; omega
    · by_cases e : r = -1
      · rw [if_pos e] at hk; simp at hk
      · rw [if_neg e] at hk; simp only [List.mem_singleton] at hk; omega
    · by_cases e : l = -1
      · rw [if_pos e] at hk; simp at hk
      · rw [if_neg e] at hk; simp only [List.mem_singleton] at hk; omega
  · rw [List.nodup_append, List.nodup_append, List.nodup_append]
    refine ⟨⟨⟨?_, p2, ?_⟩, ?_, ?_⟩, ?_, ?_⟩
    · simp [n1, n4, n7]
    · intro x hx y hy e
      subst e
      have := q x hy
      simp only [List.mem_cons, List.not_mem_nil, or_false] at hx
      rcases hx with rfl | rfl | rfl <;> omega
    · by_cases e : r = -1
      · rw [if_pos e]; exact List.nodup_nil
      · rw [if_neg e]; simp
    · intro x hx y hy e
      subst e
      by_cases e : r = -1
      · rw [if_pos e] at hy; simp at hy
      · rw [if_neg e, List.mem_singleton] at hy
        subst hy
        rw [List.mem_append] at hx
        rcases hx with hx | hx
        · simp only [List.mem_cons, List.not_mem_nil, or_false] at hx
          rcases hx with e | e | e
          · exact n2 e.symm
          · exact n5 e.symm
          · exact n8 e.symm
        · exact (q x hx).2.2.2.2.2.1 rfl
    · by_cases e : l = -1
      · rw [if_pos e]; exact List.nodup_nil
      · rw [if_neg e]; simp
    · intro x hx y hy e
      subst e
      by_cases e : l = -1
      · rw [if_pos e] at hy; simp at hy
      · rw [if_neg e, List.mem_singleton] at hy
        subst hy
        rw [List.mem_append, List.mem_append] at hx
        rcases hx with (hx | hx) | hx
        · simp only [List.mem_cons, List.not_mem_nil, or_false] at hx
          rcases hx with e | e | e
          · exact n3 e.symm
          · exact n6 e.symm
          · exact n9 e.symm
        · exact (q x hx).2.2.2.2.2.2 rfl
        · by_cases e2 : r = -1
          · rw [if_pos e2] at hx; simp at hx
          · rw [if_neg e2, List.mem_singleton] at hx
            exact n10 (by omega) hx.symm
  · rw [List.all_eq_true]
    intro k hk
    rw [List.eq_of_mem_replicate hk]; decide
end Go.Proofs.YtoalecalahkblaaGreatDoor

set_option linter.all false
namespace Go.Proofs.YtoalecalahkblaaGreatDoor
open Go.RowKit
structure RowW (w : World) (B g : Nat) (l : List UInt8) : Prop where
  cell : RowBi w g l
  froz : ∀ k, k < l.length → w.frozen? ⟨g, k, none⟩ = false
  lt : g < w.heap.size
  ge : B ≤ g
theorem rowW_new (w : World) (s : ByteArray) (cap t : Nat) : RowW (w.alloc (.cells (bytesRow s cap) t ((bytesRow s cap).size, (bytesRow s cap).size + 1))).drew w.heap.size w.heap.size s.data.toList := by
  refine ⟨rowB_newi w s cap t _, fun k hk => ?_, by show _ < (w.heap.push _).size; simp, Nat.le_refl _⟩
  have h1 : (w.alloc (.cells (bytesRow s cap) t ((bytesRow s cap).size, (bytesRow s cap).size + 1))).drew.heap[w.heap.size]? = some (.cells (bytesRow s cap) t ((bytesRow s cap).size, (bytesRow s cap).size + 1)) := by
    show (w.heap.push _)[w.heap.size]? = _
    simp
  have h2 : s.data.size ≤ (bytesRow s cap).size := by unfold bytesRow; simp
  have h3 : k < (bytesRow s cap).size := by
    rw [Array.length_toList] at hk; omega
  simp only [World.frozen?, h1]
  have : decide ((bytesRow s cap).size ≤ k) = false := decide_eq_false (by omega)
  rw [this]; rfl
theorem RowW.set_ {w : World} {B g : Nat} {l : List UInt8} (h : RowW w B g l) (k : Nat) (c : UInt8) : RowW (w.setCell ⟨g, k, none⟩ (.int .u8 (c.toNat : Int))) B g (l.set k c) := by
  refine ⟨fun j d hj => ?_, fun j hj => ?_, by simpa using h.lt, h.ge⟩
  · have hjl : j < l.length := by
      rcases Nat.lt_or_ge j (l.set k c).length with h' | h'
      · simpa using h'
      · rw [List.getElem?_eq_none h'] at hj; cases hj
    have hc := h.cell j l[j] (List.getElem?_eq_getElem hjl)
    by_cases e : k = j
    · subst e
      rw [List.getElem?_set_self hjl] at hj
      injection hj with hj; subst hj
      exact World.cell?_setCell_same (w := w) (a := ⟨g, k, none⟩) (v := .int .u8 (c.toNat : Int)) hc
    · rw [List.getElem?_set_ne e] at hj
      rw [World.cell?_setCell_other (w := w) (a := ⟨g, k, none⟩) (b := ⟨g, j, none⟩) (v := .int .u8 (c.toNat : Int)) (fun h' => e (by injection h'))]
      exact h.cell j d hj
  · rw [World.frozen?_setCell]
    exact h.froz j (by simpa using hj)
theorem RowW.now {w w' : World} {B g : Nat} {l : List UInt8} (h : RowW w B g l) (hb : Below w.heap.size w w') : RowW w' B g l := by
  have hg := hb.block g h.lt
  refine ⟨fun k c hk => ?_, fun k hk => ?_, Nat.lt_of_lt_of_le h.lt hb.size, h.ge⟩
  · rw [← h.cell k c hk]; simp only [World.cell?, hg]
  · rw [← h.froz k hk]; simp only [World.frozen?, hg]
theorem RowW.conv {w : World} {B g : Nat} {l : List UInt8} (h : RowW w B g l) (cap : Nat) : (convert 72 9 (.slice (some ⟨g, 0, none⟩) l.length cap)).run Tryz.prog w = .ok (.string (bsOf l)) w := by
  refine run_convert_bytes_back w _ _ _ ⟨g, 0, none⟩ cap l Tryz.underlying72 Tryz.underlying5 Tryz.underlying9 (fun j hj => ?_)
  have e : ((⟨g, 0, none⟩ : Addr).add j) = ⟨g, j, none⟩ := by unfold Addr.add; by_cases hj : j = 0 <;> simp [hj]
  rw [e]
  exact h.cell j _ (List.getElem?_eq_getElem hj)
def lowN (l : Bt) (j : Nat) : Bt := (l.take j).map lowB ++ l.drop j
theorem lowN_len (l : Bt) (j : Nat) : (lowN l j).length = l.length := by unfold lowN; simp; omega
theorem lowN_zero (l : Bt) : lowN l 0 = l := by unfold lowN; simp
theorem lowN_all (l : Bt) : lowN l l.length = smallB l := by unfold lowN smallB; simp
theorem lowN_at (l : Bt) (j : Nat) : (lowN l j)[j]? = l[j]? := by
  rcases Nat.lt_or_ge j l.length with h | h
  · unfold lowN
    rw [List.getElem?_append_right (by simp; omega), List.getElem?_drop]
    have : j + (j - ((l.take j).map lowB).length) = j := by simp; omega
    rw [this]
  · rw [List.getElem?_eq_none h, List.getElem?_eq_none (by rw [lowN_len]; exact h)]
theorem lowN_set {l : Bt} {j : Nat} {c : UInt8} (h : l[j]? = some c) : (lowN l j).set j (lowB c) = lowN l (j + 1) := by
  obtain ⟨hj, rfl⟩ := List.getElem?_eq_some_iff.1 h
  have e1 : ((l.take j).map lowB).length = j := by simp; omega
  have e2 : l.drop j = l[j] :: l.drop (j + 1) := List.drop_eq_getElem_cons hj
  have e3 : l.take (j + 1) = l.take j ++ [l[j]] := by rw [List.take_add_one, List.getElem?_eq_getElem hj]; rfl
  unfold lowN
  rw [List.set_append_right _ _ (by omega), e1, Nat.sub_self, e2, List.set_cons_zero, e3, List.map_append]
  simp
theorem lowN_same {l : Bt} {j : Nat} {c : UInt8} (h : l[j]? = some c) (hc : lowB c = c) : lowN l (j + 1) = lowN l j := by
  rw [← lowN_set h, hc]
  refine List.ext_getElem? fun i => ?_
  by_cases e : j = i
  · subst e
    rw [List.getElem?_set_self (by rw [lowN_len]; exact (List.getElem?_eq_some_iff.1 h).1), lowN_at, h]
  · rw [List.getElem?_set_ne e]
theorem lowB_yes {c : UInt8} (h1 : 65 ≤ (c.toNat : Int)) (h2 : (c.toNat : Int) ≤ 90) : ((lowB c).toNat : Int) = (c.toNat : Int) + 32 := by
  have : 65 ≤ c ∧ c ≤ 90 := ⟨by rw [UInt8.le_iff_toNat_le]; show 65 ≤ c.toNat; omega, by rw [UInt8.le_iff_toNat_le]; show c.toNat ≤ 90; omega⟩
  unfold lowB
  have h32 : UInt8.toNat 32 = 32 := rfl
  rw [if_pos this, UInt8.toNat_add, h32]
  omega
theorem lowB_no {c : UInt8} (h : ¬ (65 ≤ (c.toNat : Int) ∧ (c.toNat : Int) ≤ 90)) : lowB c = c := by
  unfold lowB
  rw [if_neg]
  rintro ⟨h1, h2⟩
  rw [UInt8.le_iff_toNat_le] at h1 h2
  have h1 : 65 ≤ c.toNat := h1
  have h2 : c.toNat ≤ 90 := h2
  exact h ⟨by omega, by omega⟩
def SmPost (s : ByteArray) (w : World) (e : Ending) (w' : World) : Prop := e = .returned (.string (bsOf (smallB s.data.toList))) ∧ Below w.heap.size w w'
theorem chg_set {B : Nat} {w wr : World} {g k : Nat} {v : Value} (h : Below B w wr) (hg : B ≤ g) : Below B w (wr.setCell ⟨g, k, none⟩ v) :=
  ⟨h.os, h.tape, h.output, by rw [World.size_setCell]; exact h.size, fun i hi => (Below.heap_setCell wr ⟨g, k, none⟩ v i (fun e => by
    have e' : g = i := by first | exact e | exact e.symm
    omega)).trans (h.block i hi)⟩
end Go.Proofs.YtoalecalahkblaaGreatDoor

set_option linter.all false
namespace Go.Proofs.YtoalecalahkblaaGreatDoor
open Go.RowKit
def SmlP (s : ByteArray) (w : World) (e : Ending) (w' : World) : Prop := e = .returned (.string (bsOf (smallB s.data.toList))) ∧ Below w.heap.size w w'
set_option maxHeartbeats 1000000 in
theorem small_any (s : ByteArray) (w : World) (hs : s.size ≤ 1000000) : Calls Tryz.prog 120 #[.string s] w (SmlP s w) := by
  have hconv := fun w => run_bytes_of_string (P := Tryz.prog) w 9 72 5 s Tryz.underlying9 Tryz.underlying72 Tryz.underlying5
  have hlen : Hid (s.data.toList.length = s.size) := by show _ = _; rw [Array.length_toList]; rfl
  have HR := fun cap => Lib.hid (rowW_new w s cap 5)
  have HB := fun cap => Lib.hid ((bone w (.cells (bytesRow s cap) 5 ((bytesRow s cap).size, (bytesRow s cap).size + 1))).drew)
  go_enter Tryz.func120, Tryz.ntmps120
  go_wp2_with fail
  obtain ⟨cap, hcap⟩ : ∃ cap, grownCap w s.size 0 5 = cap := ⟨_, rfl⟩
  rw [hcap]
  have HR := HR cap
  have HB := HB cap
  clear hconv hcap
  generalize (w.alloc (Obj.cells (bytesRow s cap) 5 ((bytesRow s cap).size, (bytesRow s cap).size + 1))).drew = w1 at *
  generalize hgg : w.heap.size = g at *
  have HG := Lib.hid hgg
  clear hgg
  go_loopw [10] (fun iv wr => ∃ k : Nat, iv = .int .i64 (k : Int) ∧ k ≤ s.size ∧ Hid (RowW wr g g (lowN s.data.toList k)) ∧ Hid (Below g w wr)) (fun iv _ => s.size - (intOf iv).toNat)
  case atStart => exact ⟨0, rfl, Nat.zero_le _, Lib.hid (by rw [lowN_zero]; exact HR.out), HB⟩
  case round =>
    obtain ⟨k, rfl, hk, HRk, HBk⟩ := hrel
    by_cases hlt : k < s.size
    · have HX : Hid (s.data.toList[k]? = some (s.data.toList[k]'(by rw [hlen.out]; exact hlt))) := List.getElem?_eq_getElem _
      generalize s.data.toList[k]'_ = c at *
      have c0 := HRk.out.cell k c (by rw [lowN_at]; exact HX.out)
      have f0 := HRk.out.froz k (by rw [lowN_len, hlen.out]; exact hlt)
      have HL := Lib.hid (lowB_yes (c := c))
      have HN := Lib.hid (lowB_no (c := c))
      obtain ⟨z, hz⟩ : ∃ z, (c.toNat : Int) = z := ⟨_, rfl⟩
      rw [hz] at c0 HL HN
      have HZ := Lib.hid hz
      clear hz
      by_cases h1 : 65 ≤ z
      · by_cases h2 : z ≤ 90
        · have e1 : IntKind.u8.wrap (z + 97) = z + 97 := by
            have : IntKind.u8.wrap (z + 97) = (z + 97) % 256 := rfl
            omega
          have e2 : IntKind.u8.wrap (z + 97 - 65) = z + 32 := by
            have : IntKind.u8.wrap (z + 97 - 65) = (z + 97 - 65) % 256 := rfl
            omega
          go_wp2_with fail
          go_roundw
          case rel =>
            refine ⟨k + 1, by go_num, by omega, Lib.hid ?_, Lib.hid (chg_set HBk.out (Nat.le_refl _))⟩
            have := HRk.out.set_ k (lowB c)
            rw [HL.out h1 h2, lowN_set HX.out] at this
            exact this
          case measure => simp [intOf]; omega
        · go_wp2_with fail
          go_roundw
          case rel => exact ⟨k + 1, by go_num, by omega, Lib.hid (by rw [lowN_same HX.out (HN.out (fun h => h2 h.2))]; exact HRk.out), HBk⟩
          case measure => simp [intOf]; omega
      · go_wp2_with fail
        go_roundw
        case rel => exact ⟨k + 1, by go_num, by omega, Lib.hid (by rw [lowN_same HX.out (HN.out (fun h => h1 h.1))]; exact HRk.out), HBk⟩
        case measure => simp [intOf]; omega
    · have hke : k = s.size := by omega
      have hcv := HRk.out.conv cap
      rw [lowN_len, hlen.out, hke, ← hlen.out, lowN_all, hlen.out] at hcv
      go_wp2_with fail
      go_ret
      exact ⟨rfl, by rw [HG.out]; exact HBk.out⟩
set_option maxHeartbeats 1000000 in
theorem small_ref (s : ByteArray) (w : World) (hs : s.size ≤ 1000000) : Calls Tryz.prog 79 #[.string s] w (SmlP s w) := by
  have hconv := fun w => run_bytes_of_string (P := Tryz.prog) w 9 72 5 s Tryz.underlying9 Tryz.underlying72 Tryz.underlying5
  have hlen : Hid (s.data.toList.length = s.size) := by show _ = _; rw [Array.length_toList]; rfl
  have HR := fun cap => Lib.hid (rowW_new w s cap 5)
  have HB := fun cap => Lib.hid ((bone w (.cells (bytesRow s cap) 5 ((bytesRow s cap).size, (bytesRow s cap).size + 1))).drew)
  go_enter Tryz.func79, Tryz.ntmps79
  go_wp2_with fail
  obtain ⟨cap, hcap⟩ : ∃ cap, grownCap w s.size 0 5 = cap := ⟨_, rfl⟩
  rw [hcap]
  have HR := HR cap
  have HB := HB cap
  clear hconv hcap
  generalize (w.alloc (Obj.cells (bytesRow s cap) 5 ((bytesRow s cap).size, (bytesRow s cap).size + 1))).drew = w1 at *
  generalize hgg : w.heap.size = g at *
  have HG := Lib.hid hgg
  clear hgg
  go_loopw [4] (fun iv wr => ∃ k : Nat, iv = .int .i64 (k : Int) ∧ k ≤ s.size ∧ Hid (RowW wr g g (lowN s.data.toList k)) ∧ Hid (Below g w wr)) (fun iv _ => s.size - (intOf iv).toNat)
  case atStart => exact ⟨0, rfl, Nat.zero_le _, Lib.hid (by rw [lowN_zero]; exact HR.out), HB⟩
  case round =>
    obtain ⟨k, rfl, hk, HRk, HBk⟩ := hrel
    by_cases hlt : k < s.size
    · have HX : Hid (s.data.toList[k]? = some (s.data.toList[k]'(by rw [hlen.out]; exact hlt))) := List.getElem?_eq_getElem _
      generalize s.data.toList[k]'_ = c at *
      have c0 := HRk.out.cell k c (by rw [lowN_at]; exact HX.out)
      have f0 := HRk.out.froz k (by rw [lowN_len, hlen.out]; exact hlt)
      have HL := Lib.hid (lowB_yes (c := c))
      have HN := Lib.hid (lowB_no (c := c))
      obtain ⟨z, hz⟩ : ∃ z, (c.toNat : Int) = z := ⟨_, rfl⟩
      rw [hz] at c0 HL HN
      have HZ := Lib.hid hz
      clear hz
      by_cases h1 : 65 ≤ z
      · by_cases h2 : z ≤ 90
        · have e1 : IntKind.u8.wrap (z + 32) = z + 32 := by
            have : IntKind.u8.wrap (z + 32) = (z + 32) % 256 := rfl
            omega
          go_wp2_with fail
          go_roundw
          case rel =>
            refine ⟨k + 1, by go_num, by omega, Lib.hid ?_, Lib.hid (chg_set HBk.out (Nat.le_refl _))⟩
            have := HRk.out.set_ k (lowB c)
            rw [HL.out h1 h2, lowN_set HX.out] at this
            exact this
          case measure => simp [intOf]; omega
        · go_wp2_with fail
          go_roundw
          case rel => exact ⟨k + 1, by go_num, by omega, Lib.hid (by rw [lowN_same HX.out (HN.out (fun h => h2 h.2))]; exact HRk.out), HBk⟩
          case measure => simp [intOf]; omega
      · go_wp2_with fail
        go_roundw
        case rel => exact ⟨k + 1, by go_num, by omega, Lib.hid (by rw [lowN_same HX.out (HN.out (fun h => h1 h.1))]; exact HRk.out), HBk⟩
        case measure => simp [intOf]; omega
    · have hke : k = s.size := by omega
      have hcv := HRk.out.conv cap
      rw [lowN_len, hlen.out, hke, ← hlen.out, lowN_all, hlen.out] at hcv
      go_wp2_with fail
      go_ret
      exact ⟨rfl, by rw [HG.out]; exact HBk.out⟩
end Go.Proofs.YtoalecalahkblaaGreatDoor

namespace Go.Proofs
open Go.Shelf
open Go.Lib in
theorem Tryz.slices_Contains_int_empty (a : Option Addr) (c : Nat) (x : Int) (w : World) :
    Calls Tryz.prog 61 #[.slice a 0 c, .int .i64 x] w fun e w' => e = .returned (.bool false) ∧ w' = w := Any.slices_Contains_int_empty Tryz.lays107 a c x w
theorem Tryz.lays110 : Go.Proofs.Lays.n110 Tryz.prog Tryz.lays110_ren := {
  mixed := by kernel_rfl
  f109 := Tryz.func97.trans (congrArg some (by kernel_rfl))
  f110 := Tryz.func77.trans (congrArg some (by kernel_rfl))
  t0 := Tryz.underlying0
  a0 := Tryz.isAgg0
  z0 := Tryz.sizeOf0
  v0 := Tryz.zeroValue0
  t3 := Tryz.underlying3
  a3 := Tryz.isAgg3
  z3 := Tryz.sizeOf3
  v3 := Tryz.zeroValue3
  t4 := Tryz.underlying4
  a4 := Tryz.isAgg4
  z4 := Tryz.sizeOf4
  v4 := Tryz.zeroValue4
  t9 := Tryz.underlying9
  a9 := Tryz.isAgg9
  z9 := Tryz.sizeOf9
  v9 := Tryz.zeroValue9
  t31 := Tryz.underlying51
  a31 := Tryz.isAgg51
  z31 := Tryz.sizeOf51
  v31 := Tryz.zeroValue51 }
open Go.Lib in
theorem Tryz.slices_Contains_string (b off n c : Nat) (zs : List ByteArray) (x : ByteArray) (w : World) (hz : n ≤ zs.length) (hbig : n ≤ 9223372036854775807) (hc : ∀ j, j < zs.length → w.cell? ⟨b, off + j, none⟩ = some (.string (zs.getD j ByteArray.empty))) :
    Calls Tryz.prog 77 #[.slice (some ⟨b, off, none⟩) n c, .string x] w fun e w' => e = .returned (.bool (Lib.containsS (zs.take n) x)) ∧ w' = w := Any.slices_Contains_string Tryz.lays110 b off n c zs x w hz hbig hc
open Go.Lib in
theorem Tryz.slices_Contains_string_empty (a : Option Addr) (c : Nat) (x : ByteArray) (w : World) :
    Calls Tryz.prog 77 #[.slice a 0 c, .string x] w fun e w' => e = .returned (.bool false) ∧ w' = w := Any.slices_Contains_string_empty Tryz.lays110 a c x w
end Go.Proofs

namespace Go.Proofs.YtoalecalahkblaaGreatDoor
open Go.RowKit
theorem containsZ (v : Value) (xs : List Int) (x : Int) (w : World) (hu : SlI (Lt w.heap.size) w v xs) :
    Calls Tryz.prog 61 #[v, .int .i64 x] w fun e w' => e = .returned (.bool (xs.contains x)) ∧ w' = w := by
  obtain ⟨A, c, rfl, h1, h2, hu⟩ := hu.open_
  by_cases hn : 0 < xs.length
  · obtain ⟨b, o, rfl, hD, _, hc⟩ := hu.cells hn
    refine (Tryz.slices_Contains_int b o xs.length c xs x w (Nat.le_refl _) (by omega) hc).mono ?_
    rintro e w' ⟨rfl, hq⟩
    rw [List.take_of_length_le (Nat.le_refl _)]
    exact ⟨rfl, hq⟩
  · have : xs = [] := List.eq_nil_of_length_eq_zero (by omega)
    subst this
    exact Tryz.slices_Contains_int_empty A c x w
end Go.Proofs.YtoalecalahkblaaGreatDoor

namespace Go.Proofs.YtoalecalahkblaaGreatDoor
open Go.RowKit
theorem grow_same {P : Program} {f : FuncId} {args : Array Value} {w W : World} {v : Value}
    (h : Calls P f args (ext w W) fun e w' => e = .returned v ∧ w' = ext w W) : Calls P f args (ext w W) fun e w'' => e = .returned v ∧ ∃ W', w'' = ext w W' :=
  h.mono fun _ _ ⟨he, hb⟩ => ⟨he, W, hb⟩
theorem grow_same' {P : Program} {f : FuncId} {args : Array Value} {w W : World} {v : Value}
    (h : Calls P f args (ext w W) fun e w' => e = .returned v ∧ ext w W = w') : Calls P f args (ext w W) fun e w'' => e = .returned v ∧ ∃ W', w'' = ext w W' :=
  h.mono fun _ _ ⟨he, hb⟩ => ⟨he, W, hb.symm⟩
end Go.Proofs.YtoalecalahkblaaGreatDoor

set_option linter.all false
namespace Go.Proofs.YtoalecalahkblaaGreatDoor
open Go.RowKit
theorem bsOf_inj {a b : Bt} (h : bsOf a = bsOf b) : a = b := by
  have := congrArg (fun x : ByteArray => x.data.toList) h
  simpa [bs_list] using this
theorem mem_bs (ws : List Bt) (l : Bt) : Lib.containsS (ws.map bsOf) (bsOf l) = decide (l ∈ ws) := by
  rw [Bool.eq_iff_iff, Lib.containsS_iff, decide_eq_true_eq, List.mem_map]
  exact ⟨fun ⟨x, hx, e⟩ => bsOf_inj e ▸ hx, fun h => ⟨l, h, rfl⟩⟩
theorem containsP (u : Value) (ws : List Bt) (l : Bt) (w : World) (hu : SlP (Lt w.heap.size) w u ws) :
    Calls Tryz.prog 77 #[u, .string (bsOf l)] w fun e w' => e = .returned (.bool (decide (l ∈ ws))) ∧ w' = w := by
  rw [← mem_bs]
  obtain ⟨A, c, rfl, h1, h2, hu⟩ := SlS.open_ hu
  by_cases hn : 0 < (ws.map bsOf).length
  · obtain ⟨b, o, rfl, hD, _, hc⟩ := SlS.cells hu hn
    refine (Tryz.slices_Contains_string b o (ws.map bsOf).length c (ws.map bsOf) (bsOf l) w (Nat.le_refl _) (by omega) hc).mono ?_
    rintro e w' ⟨rfl, rfl⟩
    rw [List.take_of_length_le (Nat.le_refl _)]
    exact ⟨rfl, rfl⟩
  · have e1 : ws.map bsOf = [] := List.eq_nil_of_length_eq_zero (by omega)
    rw [e1]
    refine (Tryz.slices_Contains_string_empty A c (bsOf l) w).mono ?_
    rintro e w' ⟨rfl, rfl⟩
    exact ⟨ret_bool rfl, rfl⟩
set_option maxHeartbeats 1000000 in
theorem find1_any (s : ByteArray) (g : Nat) (v : Value) (ws : List Bt) (w : World) (hs : s.size ≤ 1000000) (hc : w.cell? ⟨g, 0, none⟩ = some v) (hg : g < w.heap.size) (hw : SlP (Lt w.heap.size) w v ws) :
    Calls Tryz.prog 119 #[.string s, .pointer (some ⟨g, 0, none⟩)] w fun e w' => e = .returned (.bool (decide (smallB s.data.toList ∈ ws))) ∧ Below w.heap.size w w' := by
  have HS : Hid (∀ W, Calls Tryz.prog 120 #[.string s] W fun e w' => e = .returned (.string (bsOf (smallB s.data.toList))) ∧ Below W.heap.size W w') := Lib.hid (fun W => (small_any s W hs).mono fun _ _ h => h)
  have HC := Lib.hid (fun W (hb : Below w.heap.size w W) => containsP v ws (smallB s.data.toList) W (hw.now hb))
  obtain ⟨A, c, rfl, h1, h2, _⟩ := hw.open_
  have c0 : ∀ W, (ext w W).cell? ⟨g, 0, none⟩ = some (.slice A ws.length c) := fun W => ((ext_below w W).cell (p := ⟨g, 0, none⟩) hg).trans hc
  generalize smallB s.data.toList = l at *
  obtain ⟨q, hq⟩ : ∃ q, decide (l ∈ ws) = q := ⟨_, rfl⟩
  rw [hq] at HC ⊢
  clear hq
  clear hw hc h1 h2
  go_enter Tryz.func119, Tryz.ntmps119
  go_upto_region 1 with fail
  refine wp_region_growV (by kernel_rfl) (by kernel_rfl) ?_
  repeat (refine veil_step (fun K hK => ?_); go_simp; first | (refine hK _ ?_; clear hK K) | (apply Exists.intro; refine ⟨fun Wq => ?_, hK _ ?_⟩; (first | (go_at_call 120; exact grow_of (HS.out (ext w Wq))) | (go_at_call 77; exact grow_same (HC.out (ext w Wq) (ext_below w Wq)))); clear hK K))
  refine veil_nil ?_
  intro _ hw'
  obtain ⟨W, rfl⟩ := hw'
  go_wp2_with fail
  go_ret
  exact ⟨rfl, ext_below w W⟩
theorem enters_find1 : ∀ args w, (callFunc 119 args).run Tryz.prog w = .ok (.enter 119 args) w := enters_of Tryz.func119 (by kernel_rfl) rfl
theorem findB_first (ws cells : List Bt) : firstF (fun x : ByteArray => decide (smallB x.data.toList ∈ ws)) (cells.map bsOf) = findB ws cells := by
  rw [findIdx_map]
  rfl
set_option maxHeartbeats 1000000 in
theorem find_any (u v : Value) (cells ws : List Bt) (w : World) (hu : SlP (Lt w.heap.size) w u cells) (hv : SlP (Lt w.heap.size) w v ws) (hs : ∀ l ∈ cells, l.length ≤ 1000000) :
    Calls Tryz.prog 74 #[u, v] w fun e w' => e = .returned (.int .i64 (findB ws cells)) ∧ Below w.heap.size w w' := by
  obtain ⟨A, c, rfl, h1, h2, hu⟩ := hu.open_
  obtain ⟨A2, c2, rfl, h3, h4, hv⟩ := hv.open_
  have hB := bone w (.cells #[.slice A2 ws.length c2] 51)
  have hK := Blk.new w 51 #[.slice A2 ws.length c2]
  have HF := Lib.hid (findB_first ws cells)
  generalize findB ws cells = z at *
  go_enter Tryz.func74, Tryz.ntmps74
  go_upto_region 1 with fail
  obtain ⟨w1, hw1⟩ : ∃ w1, w.alloc (.cells #[.slice A2 ws.length c2] 51) = w1 := ⟨_, rfl⟩
  rw [hw1] at hB hK ⊢
  clear hw1
  generalize hgg : w.heap.size = g at *
  have hc0 := hK.cell 0
  have hg := hK.lt
  have hu1 : SlP (Lt w1.heap.size) w1 (.slice A cells.length c) cells := SlP.now (w := w) (by rw [hgg]; exact hu) (by rw [hgg]; exact hB)
  have hv1 : SlP (Lt w1.heap.size) w1 (.slice A2 ws.length c2) ws := SlP.now (w := w) (by rw [hgg]; exact hv) (by rw [hgg]; exact hB)
  have HI := Lib.hid (idxFS 119 #[.pointer (some ⟨g, 0, none⟩)] enters_find1 (.slice A cells.length c) (cells.map bsOf) (fun x => decide (smallB x.data.toList ∈ ws)) w1 hu1 (by
    rintro x u W hx ⟨hux, -⟩ hb
    obtain ⟨l, hl, rfl⟩ := List.mem_map.1 hx
    injection hux with hux
    subst hux
    exact find1_any (bsOf l) g (.slice A2 ws.length c2) ws W (by rw [bs_size]; exact hs l hl) ((hb.cell (p := ⟨g, 0, none⟩) hg).trans hc0) (Nat.lt_of_lt_of_le hg hb.size) (hv1.now hb)))
  rw [HF.out] at HI
  have HB := Lib.hid hB
  have HG := Lib.hid hgg
  clear hB hu hv hK hu1 hv1 hc0 hg hgg
  go_wp2_with (go_at_call 73; (with_reducible refine HI.out.mono ?_); rintro e w' ⟨rfl, hb'⟩)
  go_ret
  exact ⟨rfl, by rw [HG.out]; exact HB.out.trans (hb'.mono (by rw [← HG.out]; exact HB.out.size))⟩
end Go.Proofs.YtoalecalahkblaaGreatDoor

set_option linter.all false
namespace Go.Proofs.YtoalecalahkblaaGreatDoor
open Go.RowKit
def sameS (s : ByteArray) (y : ByteArray) : Bool := y.toList == s.toList
theorem atS_hit (l : List ByteArray) (s : ByteArray) (j : Nat) (y : ByteArray) (hy : l[j]? = some y) (h : sameS s y = true) (hn : ∀ q z, q < j → l[q]? = some z → sameS s z = false) : atS l s = j := by
  have hj : j < l.length := by
    rcases Nat.lt_or_ge j l.length with h | h
    · exact h
    · rw [List.getElem?_eq_none h] at hy; cases hy
  have : l.findIdx? (fun y => y.toList == s.toList) = some j := by
    rw [List.findIdx?_eq_some_iff_getElem]
    refine ⟨hj, ?_, fun q hq => ?_⟩
    · rw [List.getElem?_eq_getElem hj] at hy; injection hy with hy; rw [hy]; exact h
    · have := hn q _ hq (List.getElem?_eq_getElem (by omega)); simpa [sameS] using this
  unfold atS; rw [this]
theorem atS_miss (l : List ByteArray) (s : ByteArray) (hn : ∀ q z, q < l.length → l[q]? = some z → sameS s z = false) : atS l s = -1 := by
  have : l.findIdx? (fun y => y.toList == s.toList) = none := by
    rw [List.findIdx?_eq_none_iff]
    intro x hx
    obtain ⟨q, hq, rfl⟩ := List.mem_iff_getElem.1 hx
    exact hn q _ hq (List.getElem?_eq_getElem hq)
  unfold atS; rw [this]
theorem atS_any (l : List ByteArray) (s : ByteArray) : decide (0 ≤ atS l s) = l.any (sameS s) := by
  unfold atS
  cases h : l.findIdx? (fun y => y.toList == s.toList) with
  | none =>
    rw [List.findIdx?_eq_none_iff] at h
    rw [Bool.eq_iff_iff]
    simp
    exact fun x hx => by have := h x hx; simpa [sameS] using this
  | some i =>
    rw [List.findIdx?_eq_some_iff_getElem] at h
    obtain ⟨h1, h2, _⟩ := h
    rw [Bool.eq_iff_iff]
    simp
    exact ⟨_, List.getElem_mem h1, h2⟩
set_option maxHeartbeats 400000 in
theorem index_ref (v : Value) (l : List ByteArray) (s : ByteArray) (w : World) (hv : SlS (Lt w.heap.size) w v l) :
    Calls Tryz.prog 78 #[v, .string s] w fun e w' => e = .returned (.int .i64 (atS l s)) ∧ w = w' := by
  obtain ⟨A, c, rfl, h1, h2, hv⟩ := hv.open_
  go_enter Tryz.func78, Tryz.ntmps78
  go_wp2_with fail
  go_loop [5] (fun i => ∃ k : Nat, k ≤ l.length ∧ i = .int .i64 k ∧ ∀ j y, j < k → l[j]? = some y → sameS s y = false) (fun i => l.length - (intOf i).toNat)
  case atStart => exact ⟨0, Nat.zero_le _, rfl, fun j _ h => absurd h (by omega)⟩
  case round =>
    obtain ⟨k, hk, rfl, hp⟩ := hrel
    have HP := Lib.hid hp
    clear hp
    by_cases hlt : k < l.length
    · obtain ⟨b, o, y, rfl, hD, hx, hf, hcell⟩ := hv.at_ hlt
      have HX := Lib.hid hx
      clear hx
      cases hq : (y.toList == s.toList) with
      | true =>
        have HE := Lib.hid (atS_hit l s k y HX.out hq HP.out)
        go_wp2_with fail
        go_ret
        exact ⟨ret_int HE.out.symm, rfl⟩
      | false =>
        have HQ : Hid (sameS s y = false) := hq
        go_wp2_with fail
        go_round
        case rel => exact ⟨k + 1, by omega, by go_num, fun j z hj hz => by
          by_cases e : j = k
          · subst e; rw [HX.out] at hz; injection hz with hz; rw [← hz]; exact HQ.out
          · exact HP.out j z (by omega) hz⟩
        case measure => simp [intOf]; omega
    · have HE := Lib.hid (atS_miss l s (fun q z hq hz => HP.out q z (by omega) hz))
      go_wp2_with fail
      go_ret
      exact ⟨ret_int HE.out.symm, rfl⟩
theorem atS_mem (ls : List Bt) (l : Bt) : decide (0 ≤ atS (ls.map bsOf) (bsOf l)) = decide (l ∈ ls) := by
  rw [atS_any, Bool.eq_iff_iff, decide_eq_true_eq, List.any_eq_true]
  have key : ∀ y : Bt, sameS (bsOf l) (bsOf y) = true ↔ y = l := fun y => by
    unfold sameS
    rw [beq_iff_eq, Lib.toList_data, Lib.toList_data, bs_list, bs_list]
  constructor
  · rintro ⟨x, hx, h⟩
    obtain ⟨y, hy, rfl⟩ := List.mem_map.1 hx
    rw [(key y).1 h] at hy; exact hy
  · intro h
    exact ⟨bsOf l, List.mem_map.2 ⟨l, h, rfl⟩, (key l).2 rfl⟩
end Go.Proofs.YtoalecalahkblaaGreatDoor

set_option linter.all false
namespace Go.Proofs.YtoalecalahkblaaGreatDoor
open Go.RowKit
theorem kind_neG {w : World} {e1 e2 size1 size2 n1 n2 B1 B2 : Nat} {u1 u2 : Value} {c1 c2 : List Value} (h1 : w.ownsRow B1 e1 size1 u1 n1 c1) (h2 : w.ownsRow B2 e2 size2 u2 n2 c2) (hne : e1 ≠ e2) : u1.ownBlock = none ∨ u1.ownBlock ≠ u2.ownBlock := by
  cases e : u1.ownBlock with
  | none => exact .inl rfl
  | some g =>
    refine .inr fun e' => ?_
    obtain ⟨c, f, k1⟩ := Lib.ownsRow_kind h1 g e
    obtain ⟨c', f', k2⟩ := Lib.ownsRow_kind h2 g e'.symm
    have := k1.symm.trans k2
    injection this with this
    injection this with _ e2 _
    exact hne e2
def REq1 {α : Type} (f : α → Value) : ElemR α := fun _ _ y c => c = [f y]
structure GsR (B : Nat) (W0 w : World) (dv kv sv : Value) (data kinds : List Int) (seen : List Bt) : Prop where
  bel : Below W0.heap.size W0 w
  dat : OwnZ w B dv data
  kin : OwnZ w B kv kinds
  sn : OwnT w B sv seen
  ne : ∀ g, dv.ownBlock = some g → kv.ownBlock ≠ some g
  size : B ≤ w.heap.size
  base : W0.heap.size ≤ B
structure OffG (w : World) (dv kv sv : Value) (g t : Nat) (cs : Array Value) : Prop where
  blk : Blk w g t cs
  n1 : dv.ownBlock ≠ some g
  n2 : kv.ownBlock ≠ some g
  n3 : sv.ownBlock ≠ some g
section
variable {B g t : Nat} {W0 w w' : World} {dv kv sv : Value} {data kinds : List Int} {seen : List Bt} {cs : Array Value}
theorem OwnZ.now {base : Nat} {v : Value} {zs : List Int} (h : OwnZ w base v zs) (hb : Below w.heap.size w w') : OwnZ w' base v zs := own_now h hb
theorem GsR.now (h : GsR B W0 w dv kv sv data kinds seen) (hb : Below w.heap.size w w') : GsR B W0 w' dv kv sv data kinds seen :=
  ⟨h.bel.trans (hb.mono h.bel.size), own_now h.dat hb, own_now h.kin hb, own_now h.sn hb, h.ne, Nat.le_trans h.size hb.size, h.base⟩
theorem OffG.now (h : OffG w dv kv sv g t cs) (hb : Below w.heap.size w w') : OffG w' dv kv sv g t cs := ⟨h.blk.now hb, h.n1, h.n2, h.n3⟩
theorem OffG.new (h : GsR B W0 w dv kv sv data kinds seen) (t : Nat) (cs : Array Value) : OffG (w.alloc (.cells cs t)) dv kv sv w.heap.size t cs :=
  ⟨Blk.new w t cs, fun e => by have := own_lt h.dat _ e; unfold Lt at this; omega, fun e => by have := own_lt h.kin _ e; unfold Lt at this; omega, fun e => by have := own_lt h.sn _ e; unfold Lt at this; omega⟩
theorem OffG.low (h : GsR B W0 w dv kv sv data kinds seen) (hk : Blk w g t cs) (hg : g < B) : OffG w dv kv sv g t cs :=
  ⟨hk, fun e => by have := (World.ownsRow.lt h.dat g e).1; omega, fun e => by have := (World.ownsRow.lt h.kin g e).1; omega, fun e => by have := (World.ownsRow.lt h.sn g e).1; omega⟩
theorem GsR.chg (h : GsR B W0 w dv kv sv data kinds seen) {v : Value} (h3 : w.grownBy w' v.ownBlock) (hv : ∀ g, v.ownBlock = some g → B ≤ g) : Below W0.heap.size W0 w' :=
  h.bel.trans (below_of_grown h3 h.bel.size (fun g hg => Nat.le_trans h.base (hv g hg)))
theorem GsR.addS (h : GsR B W0 w dv kv sv data kinds seen) {sv' : Value} {l : Bt} (h2 : w'.ownsRow B 9 1 sv' (seen.length + 1) (seen.map (fun l => Value.string (bsOf l)) ++ [.string (bsOf l)])) (h3 : w.grownBy w' sv.ownBlock) :
    GsR B W0 w' dv kv sv' data kinds (seen ++ [l]) := by
  refine ⟨h.chg h3 (fun g hg => (World.ownsRow.lt h.sn g hg).1), World.ownsRow.kept h.dat h3 (kind_neG h.dat h.sn (by decide)), World.ownsRow.kept h.kin h3 (kind_neG h.kin h.sn (by decide)), ?_, h.ne, Nat.le_trans h.size h3.size, h.base⟩
  show w'.ownsRow B 9 1 sv' (seen ++ [l]).length ((seen ++ [l]).map fun l => Value.string (bsOf l))
  rw [List.length_append, List.length_singleton, List.map_append]
  exact h2
theorem wp_pickD {o : Oper} {a : Act} {K : Act → World → Prop} {Q : Exit → Act → World → Prop} (s x : Operand) (p : Int)
    (ho : o.op = .call { callee := .builtin .append, args := #[s, x], argTypes := #[31, 31] }) (hP : GsR B W0 w dv kv sv data kinds seen) (hO : OffG w dv kv sv g 3 #[.int .i64 p])
    (hs : a.eval s = dv) (hx : a.eval x = .slice (some ⟨g, 0, none⟩) 1 1) (hn : data.length < 1000000)
    (h : ∀ v' w', GsR B W0 w' v' kv sv (data ++ [p]) kinds seen → (∀ g t cs, OffG w dv kv sv g t cs → OffG w' v' kv sv g t cs) → K (a.put o.dst v') w') : o.wp Tryz.prog a w K Q := by
  have hu : Sl 1 (REq1 (Value.int .i64)) (Lt w.heap.size) w (.slice (some ⟨g, 0, none⟩) 1 1) [p] := Sl.ofBlk (xs := [p]) (cs := [.int .i64 p]) hO.blk (by unfold maxLen; show 1 ≤ _; decide) (fun i y hy => by
    match i, hy with
    | 0, hy => injection hy with hy; subst hy; exact ⟨[.int .i64 p], rfl, fun j u hu => by simpa using hu, rfl⟩
    | i + 1, hy => simp at hy)
  refine wp_appendAll appInts s x ho w dv data.length (data.map (Value.int .i64)) hs hP.dat _ [p] (Value.int .i64) hx hu (fun y c hc => by injection hc) (fun _ => rfl) (by simp; omega) hP.size (fun v' w' h2 h3 h4 => h v' w' ?_ ?_)
  · refine ⟨hP.chg h3 (fun g hg => (World.ownsRow.lt hP.dat g hg).1), ?_, World.ownsRow.kept hP.kin h3 ?_, World.ownsRow.kept hP.sn h3 (kind_neG hP.sn hP.dat (by decide)), fun g hg => ?_, Nat.le_trans hP.size h3.size, hP.base⟩
    · show w'.ownsRow B 3 1 v' (data ++ [p]).length ((data ++ [p]).map (Value.int .i64))
      rw [List.length_append, List.map_append]
      exact h2
    · cases e : kv.ownBlock with
      | none => exact .inl rfl
      | some g => exact .inr fun e' => hP.ne g e'.symm e
    · rcases h4 with e | e
      · rw [e] at hg; exact hP.ne g hg
      · rw [e] at hg; injection hg with hg; intro e'; have := own_lt hP.kin _ e'; unfold Lt at this; omega
  · intro g t cs hG
    refine ⟨hG.blk.grown h3 (fun e => hG.n1 e.symm), ?_, hG.n2, hG.n3⟩
    rcases h4 with e | e
    · rw [e]; exact hG.n1
    · rw [e]; intro e'; injection e' with e'; have := hG.blk.lt; omega
theorem wp_pickK {o : Oper} {a : Act} {K : Act → World → Prop} {Q : Exit → Act → World → Prop} (s x : Operand) (p : Int)
    (ho : o.op = .call { callee := .builtin .append, args := #[s, x], argTypes := #[31, 31] }) (hP : GsR B W0 w dv kv sv data kinds seen) (hO : OffG w dv kv sv g 3 #[.int .i64 p])
    (hs : a.eval s = kv) (hx : a.eval x = .slice (some ⟨g, 0, none⟩) 1 1) (hn : kinds.length < 1000000)
    (h : ∀ v' w', GsR B W0 w' dv v' sv data (kinds ++ [p]) seen → (∀ g t cs, OffG w dv kv sv g t cs → OffG w' dv v' sv g t cs) → K (a.put o.dst v') w') : o.wp Tryz.prog a w K Q := by
  have hu : Sl 1 (REq1 (Value.int .i64)) (Lt w.heap.size) w (.slice (some ⟨g, 0, none⟩) 1 1) [p] := Sl.ofBlk (xs := [p]) (cs := [.int .i64 p]) hO.blk (by unfold maxLen; show 1 ≤ _; decide) (fun i y hy => by
    match i, hy with
    | 0, hy => injection hy with hy; subst hy; exact ⟨[.int .i64 p], rfl, fun j u hu => by simpa using hu, rfl⟩
    | i + 1, hy => simp at hy)
  refine wp_appendAll appInts s x ho w kv kinds.length (kinds.map (Value.int .i64)) hs hP.kin _ [p] (Value.int .i64) hx hu (fun y c hc => by injection hc) (fun _ => rfl) (by simp; omega) hP.size (fun v' w' h2 h3 h4 => h v' w' ?_ ?_)
  · refine ⟨hP.chg h3 (fun g hg => (World.ownsRow.lt hP.kin g hg).1), World.ownsRow.kept hP.dat h3 ?_, ?_, World.ownsRow.kept hP.sn h3 (kind_neG hP.sn hP.kin (by decide)), fun g hg => ?_, Nat.le_trans hP.size h3.size, hP.base⟩
    · cases e : dv.ownBlock with
      | none => exact .inl rfl
      | some g => exact .inr fun e' => hP.ne g e e'.symm
    · show w'.ownsRow B 3 1 v' (kinds ++ [p]).length ((kinds ++ [p]).map (Value.int .i64))
      rw [List.length_append, List.map_append]
      exact h2
    · rcases h4 with e | e
      · rw [e]; exact hP.ne g hg
      · rw [e]; intro e'; injection e' with e'; have := own_lt hP.dat _ hg; unfold Lt at this; omega
  · intro g t cs hG
    refine ⟨hG.blk.grown h3 (fun e => hG.n2 e.symm), hG.n1, ?_, hG.n3⟩
    rcases h4 with e | e
    · rw [e]; exact hG.n2
    · rw [e]; intro e'; injection e' with e'; have := hG.blk.lt; omega
theorem GsR.set_ (h : GsR B W0 w dv kv sv data kinds seen) {G k : Nat} {u : Value} (h1 : W0.heap.size ≤ G) (h2 : G < B) : GsR B W0 (w.setCell ⟨G, k, none⟩ u) dv kv sv data kinds seen := by
  have key : w.grownBy (w.setCell ⟨G, k, none⟩ u) (some G) := ⟨rfl, rfl, rfl, by simp, fun i _ hne => Below.heap_setCell w ⟨G, k, none⟩ u i (fun e => hne (by rw [e]))⟩
  have nx : ∀ {e size n : Nat} {v : Value} {c : List Value}, w.ownsRow B e size v n c → v.ownBlock = none ∨ v.ownBlock ≠ some G := fun hh => .inr fun e => by have := (World.ownsRow.lt hh G e).1; omega
  exact ⟨h.bel.trans (below_of_grown key h.bel.size (fun g hg => by injection hg with hg; omega)), World.ownsRow.kept h.dat key (nx h.dat), World.ownsRow.kept h.kin key (nx h.kin), World.ownsRow.kept h.sn key (nx h.sn), h.ne, by simpa using h.size, h.base⟩
end
end Go.Proofs.YtoalecalahkblaaGreatDoor

namespace Go.Proofs.YtoalecalahkblaaGreatDoor
theorem unlisted_zero {L : Array Bool} (h : unlisted L = 0) : ∀ i, i < L.size → L.getD i false = true := by
  intro i hi
  unfold unlisted at h
  have h0 := List.eq_nil_of_length_eq_zero h
  rw [List.filter_eq_nil_iff] at h0
  have := h0 L[i] (by simp)
  simpa [hi] using this
theorem unlisted_pos {L : Array Bool} {f : Nat} (h : unlisted L = f + 1) : ∃ i, i < L.size ∧ L.getD i true = false := by
  unfold unlisted at h
  cases hl : L.toList.filter (fun b => !b) with
  | nil => rw [hl] at h; simp at h
  | cons b l =>
    have hb : b ∈ L.toList.filter (fun b => !b) := by rw [hl]; simp
    rw [List.mem_filter] at hb
    obtain ⟨i, hi, e⟩ := List.mem_iff_getElem.1 hb.1
    have hi' : i < L.size := by simpa using hi
    refine ⟨i, hi', ?_⟩
    have hbf : b = false := by simpa using hb.2
    have : L[i] = false := by rw [← hbf, ← e]; simp
    simp [hi', this]
section
variable {P : Program} {l : List Oper} {n : Nat} {Q : Exit → Act → World → Prop}
theorem wpAny_tail (hE : earlyB l = true) (hs : Region.sinkB .any l.toArray n = true) (hc : Region.chainB .any l.toArray n = true) (hn : n < l.length)
    (hq : Region.seqB .any l.toArray (l.length - n) n (Array.replicate n true ++ Array.replicate (l.length - n) false) = true) :
    ∀ (f : Nat) (L' L : Array Bool) (a : Act) (w : World), L'.size = n → unlisted L' = f → HeadInv .any l.toArray n L → (∀ i b, i < n → L.getD i b = L'.getD i b) →
      wpAny P .any (l.take n).toArray (TailPost P l n Q) f L' a w → wpAny P .any l.toArray Q (f + (l.length - n)) L a w := by
  intro f
  induction f with
  | zero =>
    intro L' L a w hs' hu inv hR h
    rw [Nat.zero_add]
    have hL : L = Array.replicate n true ++ Array.replicate (l.length - n) false := by
      apply Array.ext
      · rw [inv.size]; simp; omega
      · intro i h1 h2
        rcases Nat.lt_or_ge i n with hi | hi
        · have := hR i false hi
          rw [unlisted_zero hu i (by omega)] at this
          rw [Array.getElem_append_left (by simpa using hi)]
          simpa [h1] using this
        · have := inv.tail i hi (by rw [← inv.size]; exact h1)
          rw [Array.getElem_append_right (by simpa using hi)]
          simpa [h1] using this
    have h2 : wpList P l.toArray Q (l.drop n) a w := h.2
    have := wpAny_of_seq (md := .any) (P := P) (ops := l.toArray) (Q' := Q) (l.drop n) n L a w (fun j => by simp [List.getElem?_drop]) (by rw [List.length_drop, hL]; exact hq) h2
    rwa [List.length_drop] at this
  | succ f ih =>
    intro L' L a w hs' hu inv hR h
    rw [show f + 1 + (l.length - n) = (f + (l.length - n)) + 1 by omega]
    obtain ⟨i0, hi0, hun0⟩ := unlisted_pos hu
    have hi0n : i0 < n := by omega
    have hun : L.getD i0 true = false := by rw [hR i0 true hi0n]; exact hun0
    have hnot : ∀ t, n ≤ t → t ∉ Region.ready .any l.toArray L := tail_waits hs hc (by simpa using hn) inv _ i0 rfl hi0n hun
    refine ⟨fun hr => ?_, fun i hi => ?_⟩
    · obtain ⟨j, _, hj⟩ := first_ready hE (L := L) (by simpa using inv.size) i0 (by rw [inv.size]; simp; omega) hun
      rw [hr] at hj; cases hj
    · have hin : i < n := by
        rcases Nat.lt_or_ge i n with h' | h'
        · exact h'
        · exact absurd hi (hnot i h')
      obtain ⟨hiu, o, ho, hall⟩ := mem_ready.1 hi
      have ho' : l[i]? = some o := by simpa using ho
      have hsp := early_spec hE ho'
      have hot : (l.take n).toArray[i]? = some o := by simp [hin, ho']
      have hi' : i ∈ Region.ready .any (l.take n).toArray L' := mem_ready.2 ⟨by rw [← hR i true hin]; exact hiu, o, hot, fun e he hb => by
        have h1 := hsp.2 e he hb
        rw [← hR e.on false (by omega)]
        exact hall e he hb⟩
      have h1 := h.2 i hi'
      have hw : ∀ ops : Array Oper, Region.wanted o (yielded ops a.tmps) = true := fun ops => by simp [Region.wanted, hsp.1]
      unfold wpOp at h1 ⊢
      rw [hot] at h1
      rw [ho]
      simp only [hw, if_true] at h1 ⊢
      have hstep : ∀ a' w', wpAny P .any (l.take n).toArray (TailPost P l n Q) f (L'.setIfInBounds i true) a' w' → wpAny P .any l.toArray Q (f + (l.length - n)) (L.setIfInBounds i true) a' w' := by
        intro a' w' h2
        refine ih (L'.setIfInBounds i true) (L.setIfInBounds i true) a' w' (by simpa using hs') ?_ (inv.set hi hin) ?_ h2
        · have := unlisted_set (listed := L') (i := i) (by rw [← hR i true hin]; exact hiu)
          omega
        · intro k b hk
          by_cases hik : i = k
          · subst hik
            have hiL : i < L.size := by rw [inv.size]; simp; omega
            have hiL' : i < L'.size := by omega
            simp [hiL, hiL']
          · rw [getD_set_ne b hik, getD_set_ne b hik]; exact hR k b hk
      rcases h1 with h1 | ⟨h1, a0, w0, h2⟩
      · left
        unfold Oper.wp at h1 ⊢
        generalize (execOp a.eval o).run P w = r at h1 ⊢
        cases r with
        | ok x w' =>
          cases x <;> simp only [Oper.upon] at h1 ⊢ <;>
            first
              | exact hstep _ _ h1
              | exact Calls.mono h1 (fun e w'' he => by cases e <;> first | exact hstep _ _ he | exact he)
              | exact Rows.mono h1 (fun _ _ he => hstep _ _ he)
        | halt x w' => cases x <;> simp only [Oper.upon] at h1 ⊢ <;> exact h1
      · exact .inr ⟨h1, a0, w0, h2⟩
theorem wp_region_held_tail {id : Nat} {a : Act} {w : World} (n : Nat) (S : World → Prop) (hm : P.follows .mixedOrders = true) (hB : tailB l n = true) (hS : S w.drew)
    (h : S w.drew → wpAnyH P .any (l.take n).toArray (TailPost P l n Q) S n (Array.replicate n false) a w.drew) : (Code.region id l.toArray true).wp P Q a w := by
  unfold tailB at hB
  simp only [Bool.and_eq_true, decide_eq_true_eq] at hB
  obtain ⟨⟨⟨⟨h1, h2⟩, h3⟩, h4⟩, h5⟩ := hB
  refine wp_region_any hm ?_
  have inv0 : HeadInv .any l.toArray n (Array.replicate l.toArray.size false) :=
    ⟨by simp, fun j oj _ hl => (by rw [getD_replicate_false] at hl; cases hl), fun t _ ht => getD_in (by simpa using ht) (getD_replicate_false _ _)⟩
  have hu : unlisted (Array.replicate n false) = n := by unfold unlisted; simp
  have := wpAny_tail (P := P) (Q := Q) h1 h3 h4 h2 h5 n (Array.replicate n false) _ a w.drew (by simp) hu inv0 (fun i b hi => by
    have h' : i < l.length := by omega
    simp [hi, h']) (wpAny_of_held _ _ _ _ (h hS))
  rw [show n + (l.length - n) = l.toArray.size by simp; omega] at this
  exact this
theorem takeL {S : World → Prop} {a : Act} {w : World} {v : Value} {oi : Oper} {fuel : Nat} {listed : Array Bool} (i : Nat) (hi : l[i]? = some oi) (hs : Region.noSelect l.toArray = true) (hf : Region.free .any l.toArray listed i = true)
    (hr : (Region.ready .any l.toArray listed).contains i = true) (hQ : ∀ c a w, Q (.panic c) (a.put oi.dst v) w → Q (.panic c) a w) (hg : oi.guard = none) (hy : ∀ W, S W → (execOp a.eval oi).run P W = .ok (.value v) W) (hS : S w)
    (h : wpAnyH P .any l.toArray Q S fuel (listed.setIfInBounds i true) (a.put oi.dst v) w) : wpAnyH P .any l.toArray Q S (fuel + 1) listed a w :=
  wpAnyH_take (by simpa using hi) hs hf hr hQ (.inl ⟨by simp [Region.wanted, hg], hy⟩) hS h
theorem onlyL {S : World → Prop} {a : Act} {w : World} {oi : Oper} {fuel : Nat} {listed : Array Bool} (i : Nat) (hi : l[i]? = some oi) (hg : oi.guard = none) (hr : Region.ready .any l.toArray listed = [i])
    (h : ∀ K' : Act → World → Prop, Go.Shut (∀ a w, S w → (S w → wpAnyH P .any l.toArray Q S fuel (listed.setIfInBounds i true) a w) → K' a w) → Oper.wp P oi a w K' Q) : wpAnyH P .any l.toArray Q S (fuel + 1) listed a w := by
  refine wpAnyH_ready hr (by simp) (AllReadyH.cons (by simpa using hi) (fun K' hK => ?_) AllReadyH.nil)
  rw [if_pos (by simp [Region.wanted, hg])]
  exact h K' hK
theorem twoL {S : World → Prop} {a : Act} {w : World} {oi oj : Oper} {fuel : Nat} {listed : Array Bool} (i j : Nat) (hi : l[i]? = some oi) (hj : l[j]? = some oj) (hgi : oi.guard = none) (hgj : oj.guard = none) (hr : Region.ready .any l.toArray listed = [i, j])
    (h1 : ∀ K' : Act → World → Prop, Go.Shut (∀ a w, S w → (S w → wpAnyH P .any l.toArray Q S fuel (listed.setIfInBounds i true) a w) → K' a w) → Oper.wp P oi a w K' Q)
    (h2 : ∀ K' : Act → World → Prop, Go.Shut (∀ a w, S w → (S w → wpAnyH P .any l.toArray Q S fuel (listed.setIfInBounds j true) a w) → K' a w) → Oper.wp P oj a w K' Q) : wpAnyH P .any l.toArray Q S (fuel + 1) listed a w := by
  refine wpAnyH_ready hr (by simp) (AllReadyH.cons (by simpa using hi) (fun K' hK => ?_) (AllReadyH.cons (by simpa using hj) (fun K' hK => ?_) AllReadyH.nil))
  · rw [if_pos (by simp [Region.wanted, hgi])]
    exact h1 K' hK
  · rw [if_pos (by simp [Region.wanted, hgj])]
    exact h2 K' hK
theorem doneL {S : World → Prop} {a : Act} {w : World} {l' : List Oper} {n fuel : Nat} {listed : Array Bool} (hr : Region.ready .any l'.toArray listed = []) (h : wpList P l.toArray Q (l.drop n) a w) : wpAnyH P .any l'.toArray (TailPost P l n Q) S fuel listed a w :=
  wpAnyH_done hr h fuel
end
end Go.Proofs.YtoalecalahkblaaGreatDoor
