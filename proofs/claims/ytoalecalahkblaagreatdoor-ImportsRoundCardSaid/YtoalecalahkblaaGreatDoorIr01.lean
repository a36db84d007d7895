/- Texts of this seat, merged. -/
import Derived.Test.YtoalecalahkblaaGreatDoorIw01
import Derived.Maps.AppendAt
import Derived.Deep.AppendLies
import Derived.RegionTactic
import Derived.OwnWalk
import Derived.WalkKit
import Derived.WalkSpells
import Derived.WalkLawsBesides
import Derived.Lib.Hide
import Derived.Deep.Draws
import Derived.Deep.OwnRows
import Derived.Test.YtoalecalahkblaaGreatDoorProg
import Derived.StillTailTactics
import Derived.Test.YtoalecalahkblaaGreatDoorIw04
import Derived.Deep.QuietTactic
import Derived.BigQuiet
import Derived.Deep.CutRange
import Derived.Deep.CutBlock
import Derived.Test.YtoalecalahkblaaGreatDoorIw05
import Derived.Test.YtoalecalahkblaaGreatDoorIw02
import Derived.Outline
import Derived.Deep.Light
import Derived.Test.YtoalecalahkblaaGreatDoorIw09
import Derived.Test.YtoalecalahkblaaGreatDoorIw08
import Derived.Test.YtoalecalahkblaaGreatDoorIw07
import Derived.Test.YtoalecalahkblaaGreatDoorIw03
import Derived.Shelf.Abstract
import Derived.Shelf.Strings.Builder1
import Derived.Shelf.Strings.Builder2
import Derived.Shelf.Small.Bits
import Derived.Shelf.Small.Strs
import Derived.Shelf.Small.Wraps
import Derived.Shelf.Strings.BuilderF
import Derived.Shelf.Strings.BuilderK
import Derived.Shelf.Strings.Builder2Cap
import Derived.Shelf.Strconv.Atoi
import Derived.Shelf.Strconv.Itoa0
import Derived.Shelf.Strconv.Itoa1
import Derived.Shelf.LaysM
import Derived.Shelf.Strconv.Itoa2
import Derived.Shelf.Strconv.Itoa3
import Derived.Shelf.Strconv.AtoiErrFast
import Derived.Shelf.Strconv.ParseIntEmpty
import Derived.Shelf.Strconv.AtoiFail
import Derived.Shelf.Strconv.Clone
import Derived.Shelf.Strconv.SyntaxError
import Derived.Shelf.LaysC
import Derived.Shelf.Strconv.ToError
import Derived.Shelf.Strconv.Lower
import Derived.Shelf.Strconv.ParseUint10
import Derived.Shelf.Strconv.ParseUint10Empty
import Derived.Shelf.Strconv.ParseUint10Any
import Derived.Shelf.Strconv.ParseInt10
import Derived.Shelf.Strconv.AtoiLong
import Derived.Shelf.Strconv.AtoiInnerAll
import Derived.Shelf.Strconv.RangeError
import Derived.Shelf.Strconv.ToErrorRange
import Derived.Shelf.Strconv.AtoiAll
import Derived.Shelf.Strconv.ErrVarAll
import Derived.Shelf.Strings.Search1
import Derived.Shelf.Strings.Search2
import Derived.Shelf.Strings.Search3
import Derived.Shelf.Strings.Count
import Derived.Shelf.Strings.Shaped
import Derived.Shelf.Sort.Plain
import Derived.Shelf.Strings.Prefix
import Derived.Shelf.Strings.Split
import Derived.Shelf.Strings.Replace
import Derived.Shelf.Unicode.DecodeSlow
import Derived.Shelf.Strings.BuilderCap
import Derived.Shelf.Slices.Turned
import Derived.Ground.Names2Prog
import Derived.Shelf.Slices.Clone
import Derived.Shelf.Slices.CompactS
import Derived.Shelf.Slices.Cells
import Derived.Shelf.Slices.In.SortNone
import Derived.Ground.SlgnProg
import Derived.Shelf.SlicesE.Compact
import Derived.Shelf.SlicesE.Clone
import Derived.Ground.SlgfProg
import Derived.Shelf.SlicesE.IndexFunc
import Derived.Shelf.SlicesE.DeleteFunc
import Derived.Lib.AtoiErrMem
import Derived.Shelf.SlSortCmp.WholeK
import Derived.Shelf.SlSortCmp.NoneTotal
import Derived.Shelf.SlSortCmp.InsertionK
import Derived.Ground.SlsfProg
import Derived.Sort.WalkA
import Derived.Sort.LotA
import Derived.Lib.SlicesCompact
import Derived.Laws.IdiomStrings
import Derived.Test.YtoalecalahkblaaGreatDoorIw06
import Derived.Lib.AppendStr
import Derived.Lib.OwnKind
import Derived.Lib.OthersKept
import Derived.Lib.UnsafeStr
import Derived.Laws.BytesString
import Derived.Orders
import Derived.Deep.Quiet
import Derived.StillTail
import Derived.Deep.RegionHeld
import Derived.Deep.RegionHeld3
import Derived.Lib.Replace
import Derived.Lib.IndexLaws
import Derived.Lib.Builder
import Derived.Lib.FrozenHead2
import Derived.Laws.Externs
import Derived.Laws.StructEq
import Derived.Test.YtoalecalahkblaaGreatDoorRows
import Derived.Test.YtoalecalahkblaaGreatDoorTie
import Derived.Test.YtoalecalahkblaaGreatDoorCards
import Derived.SevenTiedAt
import Derived.LaidLaws
import Derived.Lib.LaidTab
import Derived.Lay
import Derived.MakeChecks
import Derived.Shelf.Vars
import Derived.ProofKit
import Derived.Deep.Slices
import Derived.Deep.Fields
import Derived.Deep.Strs
import Derived.ChangeSame
import Derived.Lib.SmallJoins
import Derived.LaidMore
import Derived.OpenShut
import Derived.Stop.Joined
set_option linter.all false
namespace Go.Proofs.YtoalecalahkblaaGreatDoor
open Go.RowKit
theorem isSep_print {sep : UInt8} (h : isSep sep = true) : sep ≠ 34 ∧ sep ≠ 10 := by
  unfold isSep at h
  simp only [Bool.or_eq_true, beq_iff_eq] at h
  rcases h with ((rfl | rfl) | rfl) | rfl <;> decide
theorem print_10 {c : UInt8} (h : printB c = true) : c ≠ 10 := by
  rintro rfl; revert h; decide
theorem print_34 : printB 34 = true := by decide
theorem quotedR_quoteB {sep : UInt8} (hs : isSep sep = true) : ∀ (b acc rest : Bt), (∀ c ∈ b, printB c = true) → endsB sep rest = true → quotedR sep acc (quoteB b ++ 34 :: rest) = .ok (acc ++ b) rest
  | [], acc, rest, _, he => by
    show quotedR sep acc (34 :: rest) = _
    unfold quotedR
    rw [if_neg (by rw [print_34]; decide), if_pos rfl]
    cases rest with
    | nil => simp
    | cons d r =>
      have hd : d ≠ 34 := by
        rintro rfl
        unfold endsB at he
        have := (isSep_print hs).1
        simp only [Bool.or_eq_true, beq_iff_eq] at he
        rcases he with he | he
        · exact absurd he (by decide)
        · exact this he.symm
      simp only [if_neg hd, if_pos he, List.append_nil]
  | c :: b, acc, rest, hp, he => by
    have ih := fun acc => quotedR_quoteB hs b acc rest (fun x hx => hp x (List.mem_cons_of_mem _ hx)) he
    by_cases h : c = 34
    · subst h
      have e : quoteB (34 :: b) ++ 34 :: rest = 34 :: 34 :: (quoteB b ++ 34 :: rest) := by
        show (if (34 : UInt8) = 34 then _ else _) ++ _ = _
        rw [if_pos rfl]; rfl
      rw [e]
      unfold quotedR
      rw [if_neg (by rw [print_34]; decide), if_pos rfl]
      simp only [if_pos]
      rw [ih, List.append_assoc]; rfl
    · have e : quoteB (c :: b) ++ 34 :: rest = c :: (quoteB b ++ 34 :: rest) := by
        show (if c = 34 then _ else _) ++ _ = _
        rw [if_neg h]; rfl
      rw [e]
      unfold quotedR
      rw [if_neg (by rw [hp c List.mem_cons_self]; decide), if_neg h, ih, List.append_assoc]; rfl
theorem plainR_cell {sep : UInt8} : ∀ (b acc rest : Bt), (∀ c ∈ b, printB c = true) → special sep b = false → endsB sep rest = true → plainR sep acc (b ++ rest) = .ok (acc ++ b) rest
  | [], acc, rest, _, _, he => by
    show plainR sep acc rest = _
    cases rest with
    | nil => simp [plainR]
    | cons d r =>
      unfold plainR
      unfold endsB at he
      simp only [Bool.or_eq_true, beq_iff_eq] at he
      rw [if_pos he, List.append_nil]
  | c :: b, acc, rest, hp, hs, he => by
    unfold special at hs
    rw [List.any_cons, Bool.or_eq_false_iff] at hs
    obtain ⟨h1, h2⟩ := hs
    simp only [Bool.or_eq_false_iff, beq_eq_false_iff_ne] at h1
    have hc := hp c List.mem_cons_self
    show plainR sep acc (c :: (b ++ rest)) = _
    unfold plainR
    rw [if_neg (by rintro (e | e); exact print_10 hc e; exact h1.2 e), if_neg (by rintro (e | e); (rw [hc] at e; cases e); exact h1.1 e)]
    rw [plainR_cell b (acc ++ [c]) rest (fun x hx => hp x (List.mem_cons_of_mem _ hx)) h2 he, List.append_assoc]; rfl
theorem cellR_cellT {sep : UInt8} (hs : isSep sep = true) (b rest : Bt) (hp : ∀ c ∈ b, printB c = true) (he : endsB sep rest = true) : cellR sep (cellT sep b ++ rest) = .ok b rest := by
  unfold cellT
  by_cases h : special sep b = true
  · rw [if_pos h]
    show quotedR sep [] ((quoteB b ++ [34]) ++ rest) = _
    rw [List.append_assoc]
    exact quotedR_quoteB hs b [] rest hp he
  · have h' : special sep b = false := by simpa using h
    rw [if_neg h]
    have key := plainR_cell (sep := sep) b [] rest hp h' he
    have hne : ∀ r, b ++ rest ≠ 34 :: r := fun r e => by
      cases b with
      | nil =>
        have e : rest = 34 :: r := e
        rw [e] at he
        unfold endsB at he
        simp only [Bool.or_eq_true, beq_iff_eq] at he
        rcases he with he | he
        · exact absurd he (by decide)
        · exact (isSep_print hs).1 he.symm
      | cons c b =>
        injection e with e _
        unfold special at h'
        rw [List.any_cons, Bool.or_eq_false_iff] at h'
        simp only [Bool.or_eq_false_iff, beq_eq_false_iff_ne] at h'
        exact h'.1.1 e
    unfold cellR
    split
    · rename_i r e; exact absurd e (hne r)
    · exact key
theorem rowR_rowT {sep : UInt8} (hs : isSep sep = true) : ∀ (r : List Bt) (acc : List Bt) (rest : Bt) (n : Nat), r ≠ [] → r.length ≤ n + 1 → (∀ b ∈ r, ∀ c ∈ b, printB c = true) → rowR sep n acc (cellsT sep r ++ 10 :: rest) = .ok (acc ++ r) rest
  | [], _, _, _, h, _, _ => absurd rfl h
  | [b], acc, rest, n, _, _, hp => by
    have h := cellR_cellT hs b (10 :: rest) (hp b List.mem_cons_self) (by simp [endsB])
    show rowR sep n acc (cellT sep b ++ 10 :: rest) = _
    cases n with
    | zero => unfold rowR; rw [h]
    | succ n => unfold rowR; rw [h]; simp
  | b :: c :: r, acc, rest, 0, _, hl, _ => absurd hl (by simp)
  | b :: c :: r, acc, rest, n + 1, _, hl, hp => by
    rw [cellsT_cons, List.append_assoc]
    have h := cellR_cellT hs b (sep :: (cellsT sep (c :: r) ++ 10 :: rest)) (hp b List.mem_cons_self) (by simp [endsB])
    have ih := rowR_rowT hs (c :: r) (acc ++ [b]) rest n (by simp) (by simpa using hl) (fun x hx => hp x (List.mem_cons_of_mem _ hx))
    unfold rowR
    show (match cellR sep (cellT sep b ++ sep :: (cellsT sep (c :: r) ++ 10 :: rest)) with | .bad rest e => _ | .ok b [] => _ | .ok b (c :: rest) => _) = _
    rw [h]
    simp only
    rw [if_neg (isSep_print hs).2, ih, List.append_assoc]; rfl
theorem cellsT_len {sep : UInt8} : ∀ r : List Bt, r.length ≤ (cellsT sep r).length + 1
  | [] => Nat.zero_le _
  | [b] => by simp
  | b :: c :: r => by
    have := cellsT_len (sep := sep) (c :: r)
    rw [cellsT_cons, List.length_append, List.length_cons (a := b), List.length_cons (a := sep)]
    omega
theorem tabR_tableT {sep : UInt8} (hs : isSep sep = true) : ∀ (rows acc : List (List Bt)) (n : Nat), rows.length ≤ n → acc.length + rows.length ≤ 2001 → tableB rows = true → tabR sep n acc (tableT sep rows) = .ok (acc ++ rows)
  | [], acc, n, _, _, _ => by
    show tabR sep n acc [] = _
    unfold tabR; rw [List.append_nil]
  | r :: rows, acc, 0, h, _, _ => absurd h (by simp)
  | r :: rows, acc, n + 1, h, hl, ht => by
    unfold tableB at ht
    rw [List.all_cons, Bool.and_eq_true, Bool.and_eq_true] at ht
    obtain ⟨⟨h1, h2⟩, h3⟩ := ht
    have hne : r ≠ [] := by rintro rfl; simp at h1
    have hp : ∀ b ∈ r, ∀ c ∈ b, printB c = true := fun b hb c hc => List.all_eq_true.1 (List.all_eq_true.1 h2 b hb) c hc
    have e : tableT sep (r :: rows) = cellsT sep r ++ 10 :: tableT sep rows := by
      show (cellsT sep r ++ [10]) ++ tableT sep rows = _
      rw [List.append_assoc]; rfl
    have hrow := rowR_rowT hs r [] (tableT sep rows) (cellsT sep r ++ 10 :: tableT sep rows).length hne (by
      have := cellsT_len (sep := sep) r
      rw [List.length_append, List.length_cons]; omega) hp
    have hcne : cellsT sep r ++ 10 :: tableT sep rows ≠ [] := by simp
    rw [List.length_cons] at hl
    rw [e]
    generalize ht : cellsT sep r ++ 10 :: tableT sep rows = t at hrow hcne
    cases t with
    | nil => exact absurd rfl hcne
    | cons c t =>
      unfold tabR
      rw [if_neg (by omega), hrow]
      simp only [List.nil_append]
      rw [tabR_tableT hs rows (acc ++ [r]) n (by simpa using h) (by rw [List.length_append, List.length_singleton]; omega) h3, List.append_assoc]; rfl
end Go.Proofs.YtoalecalahkblaaGreatDoor

namespace Go.Proofs.YtoalecalahkblaaGreatDoor
open Go.RowKit
theorem rows_le {sep : UInt8} : ∀ rows : List (List Bt), rows.length ≤ (tableT sep rows).length
  | [] => Nat.zero_le _
  | r :: rows => by
    have := rows_le (sep := sep) rows
    show _ ≤ (rowT sep r ++ tableT sep rows).length
    rw [List.length_append]
    unfold rowT
    rw [List.length_append, List.length_singleton, List.length_cons]
    omega
theorem cells_of_write {sep : UInt8} {rows : List (List Bt)} {s : Bt} (h : writeE sep rows = (s, 0)) : cellsE sep s = (rows, (0, 0), 0) := by
  unfold writeE at h
  by_cases h1 : isSep sep = false ∨ tableB rows = false
  · rw [if_pos h1] at h; injection h with _ h; exact absurd h (by decide)
  rw [if_neg h1] at h
  by_cases h2 : 2001 < rows.length
  · rw [if_pos h2] at h; injection h with _ h; exact absurd h (by decide)
  rw [if_neg h2] at h
  by_cases h3 : 16384 < (tableT sep rows).length
  · rw [if_pos h3] at h; injection h with _ h; exact absurd h (by decide)
  rw [if_neg h3] at h
  injection h with h _
  subst h
  have hs : isSep sep = true := by
    cases e : isSep sep with
    | true => rfl
    | false => exact absurd (Or.inl e) h1
  have ht : tableB rows = true := by
    cases e : tableB rows with
    | true => rfl
    | false => exact absurd (Or.inr e) h1
  unfold cellsE
  rw [if_neg (by rw [hs]; decide), if_neg h3, tabR_tableT hs rows [] _ (rows_le rows) (by simpa using h2) ht]
  rfl
theorem write_err {sep : UInt8} {rows : List (List Bt)} (h : (writeE sep rows).2 ≠ 0) : (writeE sep rows).1 = [] := by
  unfold writeE at h ⊢
  by_cases h1 : isSep sep = false ∨ tableB rows = false
  · rw [if_pos h1]
  rw [if_neg h1] at h ⊢
  by_cases h2 : 2001 < rows.length
  · rw [if_pos h2]
  rw [if_neg h2] at h ⊢
  by_cases h3 : 16384 < (tableT sep rows).length
  · rw [if_pos h3]
  rw [if_neg h3] at h
  exact absurd rfl h
end Go.Proofs.YtoalecalahkblaaGreatDoor

set_option linter.all false
namespace Go.Proofs.YtoalecalahkblaaGreatDoor
open Go.RowKit
theorem less_self : ∀ l : List UInt8, Op.bytesLess l l = false
  | [] => by simp [Op.bytesLess]
  | a :: l => by rw [Op.bytesLess, less_self l]; simp
set_option maxHeartbeats 2000000 in
theorem compareSame_ref (ls : List Bt) (u v : Value) (w : World) (hu : SlP (Lt w.heap.size) w u ls) (hv : SlP (Lt w.heap.size) w v ls) :
    Calls Tryz.prog 118 #[u, v] w fun e w' => e = .returned (.int .i64 0) ∧ Below w.heap.size w w' := by
  obtain ⟨A, c, rfl, _, _, hu⟩ := hu.open_
  obtain ⟨A2, c2, rfl, _, _, hv⟩ := hv.open_
  have HU := Lib.hid hu
  have HV := Lib.hid hv
  clear hu hv
  go_enter Tryz.func118, Tryz.ntmps118
  go_wp2_with fail
  go_loopw [5] (fun iv wr => ∃ k : Nat, iv = .int .i64 (k : Int) ∧ k ≤ ls.length ∧ Hid (Below w.heap.size w wr)) (fun iv _ => ls.length - (intOf iv).toNat)
  case atStart => exact ⟨0, rfl, Nat.zero_le _, Lib.hid (Below.refl _ _)⟩
  case round =>
    obtain ⟨k, rfl, hk, HB⟩ := hrel
    by_cases hlt : k < ls.length
    · obtain ⟨b, o, t, rfl, hD, hx, htm, hc⟩ := SlP.at_ (HU.out.now HB.out) hlt
      obtain ⟨b2, o2, t2, rfl, hD2, hx2, _, hc2⟩ := SlP.at_ (HV.out.now HB.out) hlt
      rw [hx] at hx2
      injection hx2 with hx2
      subst hx2
      generalize bsOf t = x at *
      have i0 : (0 : Int) ≤ (k : Int) := by omega
      have i1 : (k : Int) < (ls.length : Int) := by omega
      clear hx htm
      go_upto_region 4 with fail
      have hl := less_self x.toList
      go_quiet (fail)
      obtain ⟨w2, hw2⟩ : ∃ w2, wr.drewN nq = w2 := ⟨_, rfl⟩
      have hbq : Below wr.heap.size wr w2 := by rw [← hw2]; exact bdrawn (Below.refl _ _) _
      rw [hw2]
      have d0 := (hbq.cell (p := ⟨b, o + k, none⟩) hD).trans hc
      have d1 := (hbq.cell (p := ⟨b2, o2 + k, none⟩) hD2).trans hc2
      have HB2 := Lib.hid (bthen HB.out hbq)
      clear hw2 hbq hc hc2
      go_upto_region 6 with fail
      go_quiet (fail)
      obtain ⟨w3, hw3⟩ : ∃ w3, w2.drewN nq = w3 := ⟨_, rfl⟩
      have HB3 : Hid (Below w.heap.size w w3) := by rw [← hw3]; exact bdrawn HB2.out _
      rw [hw3]
      clear hw3 d0 d1
      go_wp2_with fail
      go_roundw
      case rel => exact ⟨k + 1, by go_num, by omega, HB3⟩
      case measure => simp [intOf]; omega
    · go_wp2_with fail
      go_ret
      exact ⟨rfl, HB.out⟩
theorem sameSame_ref (ls : List Bt) (u v : Value) (w : World) (hu : SlP (Lt w.heap.size) w u ls) (hv : SlP (Lt w.heap.size) w v ls) :
    Calls Tryz.prog 71 #[u, v] w fun e w' => e = .returned (.bool true) ∧ Below w.heap.size w w' := by
  have HC := Lib.hid (compareSame_ref ls u v w hu hv)
  obtain ⟨A, c, rfl, _, _, _⟩ := hu.open_
  obtain ⟨A2, c2, rfl, _, _, _⟩ := hv.open_
  clear hu hv
  go_enter Tryz.func71, Tryz.ntmps71
  go_wp2_with fail
  (with_reducible refine HC.out.mono ?_)
  rintro _ w' ⟨rfl, hb⟩
  have HB := Lib.hid hb
  clear hb
  go_wp2_with fail
  go_ret
  exact ⟨rfl, HB.out⟩
set_option maxHeartbeats 2000000 in
theorem sameAll_ref (rows : List (List Bt)) (u v : Value) (w : World) (hu : SlSS (Lt w.heap.size) w u rows) (hv : SlSS (Lt w.heap.size) w v rows) :
    Calls Tryz.prog 23 #[u, v] w fun e w' => e = .returned (.bool true) ∧ Below w.heap.size w w' := by
  obtain ⟨A, c, rfl, _, _, hu⟩ := hu.open_
  obtain ⟨A2, c2, rfl, _, _, hv⟩ := hv.open_
  have HU := Lib.hid hu
  have HV := Lib.hid hv
  clear hu hv
  go_enter Tryz.func23, Tryz.ntmps23
  go_wp2_with fail
  go_loopw [5] (fun iv wr => ∃ k : Nat, iv = .int .i64 (k : Int) ∧ k ≤ rows.length ∧ Hid (Below w.heap.size w wr)) (fun iv _ => rows.length - (intOf iv).toNat)
  case atStart => exact ⟨0, rfl, Nat.zero_le _, Lib.hid (Below.refl _ _)⟩
  case round =>
    obtain ⟨k, rfl, hk, HB⟩ := hrel
    by_cases hlt : k < rows.length
    · obtain ⟨b, o, r, x, rfl, hD, hx, hr, hc⟩ := SlSS.at_ (HU.out.now HB.out) hlt
      obtain ⟨b2, o2, r2, x2, rfl, hD2, hx2, hr2, hc2⟩ := SlSS.at_ (HV.out.now HB.out) hlt
      rw [hx] at hx2
      injection hx2 with hx2
      subst hx2
      obtain ⟨Ar, cr, rfl, _, _, hr⟩ := hr.open_
      obtain ⟨Ar2, cr2, rfl, _, _, hr2⟩ := hr2.open_
      have HS : Hid (∀ W, Calls Tryz.prog 71 #[.slice Ar r.length cr, .slice Ar2 r.length cr2] (ext wr W) fun e w' => e = .returned (.bool true) ∧ Below (ext wr W).heap.size (ext wr W) w') := fun W =>
        sameSame_ref r _ _ (ext wr W) (hr.now (ext_below wr W)) (hr2.now (ext_below wr W))
      have c0 : ∀ W, (ext wr W).cell? ⟨b, o + k, none⟩ = some (.slice Ar r.length cr) := fun W => ((ext_below wr W).cell (p := ⟨b, o + k, none⟩) hD).trans hc
      have c1 : ∀ W, (ext wr W).cell? ⟨b2, o2 + k, none⟩ = some (.slice Ar2 r.length cr2) := fun W => ((ext_below wr W).cell (p := ⟨b2, o2 + k, none⟩) hD2).trans hc2
      have i0 : (0 : Int) ≤ (k : Int) := by omega
      have i1 : (k : Int) < (rows.length : Int) := by omega
      clear hx hr hr2 hc hc2
      go_upto_region 6 with fail
      refine wp_region_growV (by kernel_rfl) (by kernel_rfl) ?_
      repeat (refine veil_step (fun K hK => ?_); go_simp; first | (refine hK _ ?_; clear hK K) | (apply Exists.intro; refine ⟨fun Wq => ?_, hK _ ?_⟩; ((go_at_call 71; exact grow_of (HS.out Wq))); clear hK K))
      refine veil_nil ?_
      intro _ hw'
      obtain ⟨W, rfl⟩ := hw'
      have HB2 := Lib.hid (bthen HB.out (ext_below wr W))
      go_wp2_with fail
      go_roundw
      case rel => exact ⟨k + 1, by go_num, by omega, HB2⟩
      case measure => simp [intOf]; omega
    · go_wp2_with fail
      go_ret
      exact ⟨rfl, HB.out⟩
end Go.Proofs.YtoalecalahkblaaGreatDoor

set_option linter.all false
namespace Go.Proofs.YtoalecalahkblaaGreatDoor
open Go.RowKit
theorem write_len {sep : UInt8} {rows : List (List Bt)} : (writeE sep rows).1.length ≤ 16384 := by
  unfold writeE
  by_cases h1 : isSep sep = false ∨ tableB rows = false
  · rw [if_pos h1]; exact Nat.zero_le _
  rw [if_neg h1]
  by_cases h2 : 2001 < rows.length
  · rw [if_pos h2]; exact Nat.zero_le _
  rw [if_neg h2]
  by_cases h3 : 16384 < (tableT sep rows).length
  · rw [if_pos h3]; exact Nat.zero_le _
  rw [if_neg h3]
  simp only
  omega
set_option maxHeartbeats 4000000 in
set_option maxRecDepth 100000 in
theorem importsRound_law (rows : List (List Bt)) (v : Value) (sep : UInt8) (w : World) (h : SlSS (Lt w.heap.size) w v rows) (ha : AmbP w) :
    Calls Tryz.prog 5 #[v, .int .u8 (sep.toNat : Int)] w fun e w' => e = .returned (.bool true) ∧ Below w.heap.size w w' := by
  have HAW := Lib.hid (awake_any w ha)
  have HH := Lib.hid h
  have HAM := Lib.hid ha
  have HWD := Lib.hid (fun W hW => wide_any v rows W hW)
  have HWP := Lib.hid (fun W hW hs hA => write_any rows v sep W hW hs hA)
  have HCE := Lib.hid (fun W : World => cells_any (bsOf (writeE sep rows).1) sep W (by rw [bs_size]; have := write_len (sep := sep) (rows := rows); omega))
  obtain ⟨A, c, rfl, _, _, _⟩ := h.open_
  obtain ⟨z, hz⟩ : ∃ z, (sep.toNat : Int) = z := ⟨_, rfl⟩
  rw [hz] at HWP HCE ⊢
  obtain ⟨q, hq⟩ : ∃ q, wideB rows = q := ⟨_, rfl⟩
  rw [hq] at HWD
  have HQ := Lib.hid hq
  clear h ha hz hq
  go_enter Tryz.func5, Tryz.ntmps5
  go_wp2_with fail
  (with_reducible refine HAW.out.mono ?_)
  rintro _ w1 ⟨rfl, hb1⟩
  have HB1 := Lib.hid hb1
  have HW1 := Lib.hid (HWD.out w1 (HH.out.now hb1))
  clear hb1 HAW
  go_wp2_with fail
  (with_reducible refine HW1.out.mono ?_)
  rintro _ w2 ⟨rfl, hb2⟩
  have HB2 := Lib.hid (bthen HB1.out hb2)
  clear hb2 HW1 HB1
  cases q with
  | true =>
    go_wp2_with fail
    go_ret
    exact ⟨rfl, HB2.out⟩
  | false =>
    have HS := Lib.hid (small_of HQ.out)
    have HP2 := Lib.hid (HWP.out w2 (HH.out.now HB2.out) HS.out (HAM.out.now HB2.out))
    go_wp2_with fail
    (with_reducible refine HP2.out.mono ?_)
    rintro _ w3 ⟨rfl, hb3⟩
    have HB3 := Lib.hid (bthen HB2.out hb3)
    clear hb3 HP2 HB2
    by_cases h0 : (writeE sep rows).2 = 0
    · have hp : writeE sep rows = ((writeE sep rows).1, 0) := by rw [← h0]
      have hc := cells_of_write hp
      have HCE3 : Hid (Calls Tryz.prog 22 #[.string (bsOf (writeE sep rows).1), .int .u8 z] w3 (RetRows (rows, (0, 0), 0) w3)) := by
        have := HCE.out w3
        rw [show (bsOf (writeE sep rows).1).data.toList = (writeE sep rows).1 from rfl, hc] at this
        exact this
      rw [h0]
      clear HCE hc hp h0
      generalize bsOf (writeE sep rows).1 = x at *
      go_wp2_with fail
      (with_reducible refine HCE3.out.mono ?_)
      rintro _ w4 ⟨rv, rfl, hs, hb4⟩
      obtain ⟨A4, c4, rfl, _, _, hs⟩ := hs.open_
      have HS4 := Lib.hid hs
      have HB4 := Lib.hid (bthen HB3.out hb4)
      clear hs hb4 HB3 HCE3
      have HB45 := Lib.hid (bone w4 (.cells #[.int .i64 0, .int .i64 0] 40))
      have HB5 := Lib.hid (bthen HB4.out HB45.out)
      have HSA := Lib.hid (sameAll_ref rows _ _ _ (HS4.out.now HB45.out) (HH.out.now HB5.out))
      have hP := Blk.new w4 40 #[.int .i64 0, .int .i64 0]
      obtain ⟨p0, p1⟩ := hP.c2
      clear hP
      go_wp2_with fail
      (with_reducible refine HSA.out.mono ?_)
      rintro _ w6 ⟨rfl, hb6⟩
      have HB6 := Lib.hid (bthen HB5.out hb6)
      clear hb6
      go_wp2_with fail
      go_ret
      exact ⟨rfl, HB6.out⟩
    · have he := write_err (sep := sep) (rows := rows) h0
      rw [he]
      have e1 : ((writeE sep rows).2 != 0) = true := by simpa using h0
      have hbe : bsOf [] = ⟨#[]⟩ := rfl
      rw [hbe]
      generalize (writeE sep rows).2 = k at *
      clear HCE he h0
      go_wp2_with fail
      go_ret
      exact ⟨rfl, HB3.out⟩
theorem importsRound_row (rows : List (List Bt)) (n : Int) (v : Value) (w : World) (h : SlSS (Lt w.heap.size) w v rows) (hn : (Lit.int .u8 n).wf = true) (ha : AmbP w) :
    Calls Tryz.prog 5 #[v, .int .u8 n] w fun e w' => e = .returned (.bool true) ∧ Below w.heap.size w w' := by
  obtain ⟨c, rfl⟩ := byte_of_wf hn
  exact importsRound_law rows v c w h ha
end Go.Proofs.YtoalecalahkblaaGreatDoor
