/- Texts of this seat, merged. -/
import Derived.Lib.Builder
import Derived.Lib.AppendStr
import Derived.Lib.UnsafeStr
import Derived.Lib.FrozenHead2
import Derived.Lib.OthersKept
import Derived.Laws.Externs
import Derived.Shelf.Strings.Builder1
import Derived.Shelf.Small.Bits
import Derived.Shelf.Small.Wraps
import Derived.Shelf.Strings.BuilderF
import Derived.Shelf.Strings.BuilderK
import Derived.Shelf.Strconv.Atoi
import Derived.Shelf.Strconv.Itoa0
import Derived.Shelf.Strconv.Itoa1
import Derived.Shelf.LaysM
import Derived.Shelf.Strconv.Itoa2
import Derived.Shelf.Strconv.Itoa3
import Derived.Shelf.Strconv.AtoiErrFast
import Derived.Shelf.Strconv.ParseIntEmpty
import Derived.Shelf.Strconv.AtoiFail
import Derived.Shelf.Strconv.Clone
import Derived.Shelf.Strconv.SyntaxError
import Derived.Shelf.LaysC
import Derived.Shelf.Strconv.ToError
import Derived.Shelf.Strconv.Lower
import Derived.Shelf.Strconv.ParseUint10
import Derived.Shelf.Strconv.ParseUint10Empty
import Derived.Shelf.Strconv.ParseUint10Any
import Derived.Shelf.Strconv.ParseInt10
import Derived.Shelf.Strconv.AtoiLong
import Derived.Shelf.Strconv.AtoiInnerAll
import Derived.Shelf.Strconv.RangeError
import Derived.Shelf.Strconv.ToErrorRange
import Derived.Shelf.Strconv.AtoiAll
import Derived.Shelf.Strconv.ErrVarAll
import Derived.Shelf.Strings.Search1
import Derived.Shelf.Strings.Search2
import Derived.Shelf.Strings.Search3
import Derived.Shelf.Strings.Shaped
import Derived.Shelf.Sort.Plain
import Derived.Shelf.Strings.Prefix
import Derived.Shelf.Strings.BuilderCap
import Derived.Shelf.Slices.Turned
import Derived.Shelf.Slices.Equal
import Derived.Ground.Names2Prog
import Derived.Shelf.Slices.Clone
import Derived.Shelf.Slices.CompactS
import Derived.Shelf.Slices.Cells
import Derived.Shelf.Slices.In.SortNone
import Derived.Shelf.Slices.Empties2
import Derived.Test.YtijmnenojbfdnaaGreatDoorProg
import Derived.Maps.AppendAt
import Derived.Deep.AppendLies
import Derived.RegionTactic
import Derived.OwnWalk
import Derived.WalkKit
import Derived.WalkSpells
import Derived.WalkLawsBesides
import Derived.Lib.Hide
import Derived.Deep.Draws
import Derived.Deep.OwnRows
import Derived.Test.YtijmnenojbfdnaaGreatDoorEq01
import Derived.Test.YtijmnenojbfdnaaGreatDoorEq02
import Derived.Test.YtijmnenojbfdnaaGreatDoorEq03
import Derived.Test.YtijmnenojbfdnaaGreatDoorEq04
import Derived.Test.YtijmnenojbfdnaaGreatDoorEq05
import Derived.Test.YtijmnenojbfdnaaGreatDoorEq06
import Derived.Test.YtijmnenojbfdnaaGreatDoorEq07
import Derived.Test.YtijmnenojbfdnaaGreatDoorEq08
import Derived.Test.YtijmnenojbfdnaaGreatDoorEq09
set_option linter.unusedSimpArgs false
set_option linter.unusedVariables false
namespace Go.Proofs.YtijmnenojbfdnaaGreatDoor
open Go.RowKit
def escC (c : UInt8) : List UInt8 := if c.toNat = 34 ∨ c.toNat = 92 then [92, c] else [c]
def escB (l : List UInt8) : List UInt8 := l.flatMap escC
def quoteL (l : List UInt8) : List UInt8 := 34 :: (escB l ++ [34])
def quoteS (s : ByteArray) : ByteArray := ⟨(quoteL s.data.toList).toArray⟩
theorem escB_snoc {l : List UInt8} {k : Nat} {c : UInt8} (h : l[k]? = some c) : escB (l.take (k + 1)) = escB (l.take k) ++ escC c := by
  unfold escB
  rw [List.take_add_one, h, List.flatMap_append]
  simp
theorem escB_len (l : List UInt8) : (escB l).length ≤ 2 * l.length := by
  unfold escB
  induction l with
  | nil => simp
  | cons a l ih =>
    rw [List.flatMap_cons, List.length_append, List.length_cons]
    have : (escC a).length ≤ 2 := by unfold escC; split <;> simp
    omega
theorem byteOf {s : ByteArray} {k : Nat} (h : k < s.size) : s.data.toList[k]? = some s[k] := by
  rw [List.getElem?_eq_getElem (by simpa using h)]; rfl
set_option maxHeartbeats 400000 in
theorem printable_any (s : ByteArray) (w : World) (hs : s.size ≤ maxLen) : Calls Tryz.prog 174 #[.string s] w fun e w' => e = .returned (.bool (plainS s)) ∧ w = w' := by
  unfold maxLen at hs
  go_enter Tryz.func174, Tryz.ntmps174
  go_wp2_with fail
  go_loop [6] (fun i => ∃ k : Nat, k ≤ s.size ∧ i = .int .i64 k ∧ ∀ j (hj : j < s.size), j < k → plainC (s.data.toList[j]'(by simpa using hj)) = true) (fun i => s.size - (intOf i).toNat)
  case atStart => exact ⟨0, Nat.zero_le _, rfl, fun j _ hj => absurd hj (by omega)⟩
  case round =>
    obtain ⟨k, hk, rfl, hp⟩ := hrel
    have HP := Lib.hid hp
    clear hp
    by_cases hlt : k < s.size
    · have HY := Lib.hid (byte_plain hlt)
      by_cases h1 : (s[k].toNat : Int) < 32
      · have HE := Lib.hid (not_plain hlt (fun h => by have := HY.out.1 h; omega))
        go_wp2_with fail
        go_ret
        exact ⟨ret_bool HE.out.symm, rfl⟩
      by_cases h2 : 126 < (s[k].toNat : Int)
      · have HE := Lib.hid (not_plain hlt (fun h => by have := HY.out.1 h; omega))
        go_wp2_with fail
        go_ret
        exact ⟨ret_bool HE.out.symm, rfl⟩
      have HQ := Lib.hid (HY.out.2 ⟨by omega, by omega⟩)
      go_wp2_with fail
      go_round
      case rel => exact ⟨k + 1, by omega, by go_num, fun j hj hjk => by
        by_cases e : j = k
        · subst e; exact HQ.out
        · exact HP.out j hj (by omega)⟩
      case measure => simp [intOf]; omega
    · have HE := Lib.hid (all_plain (s := s) (fun j hj => HP.out j hj (by omega)))
      go_wp2_with fail
      go_ret
      exact ⟨ret_bool HE.out.symm, rfl⟩
set_option maxHeartbeats 1000000 in
theorem literal_any (s : ByteArray) (w : World) (hs : s.size ≤ 1000000) : Calls Tryz.prog 175 #[.string s] w fun e w' => e = .returned (.string (quoteS s)) ∧ Below w.heap.size w w' := by
  have hb := bone w (.cells #[.pointer none, .slice none 0 0] 92)
  have hB0 := Bld.new (Blk.new w 92 #[.pointer none, .slice none 0 0]) (Nat.le_refl _)
  go_enter Tryz.func175, Tryz.ntmps175
  go_wp2_with fail
  refine (writeByte_any w.heap.size w.heap.size [] 34 _ hB0 (by simp) (by simp)).mono ?_
  rintro e w1 ⟨rfl, hB1, hb1, _⟩
  have hbw1 : Below w.heap.size w w1 := hb.trans hb1
  go_wp2_with fail
  go_loopw [8] (fun i wr => ∃ k : Nat, k ≤ s.size ∧ i = .int .i64 k ∧ Bld wr w.heap.size w.heap.size (34 :: escB (s.data.toList.take k)) ∧ Below w.heap.size w wr) (fun i _ => s.size - (intOf i).toNat)
  case atStart => exact ⟨0, Nat.zero_le _, rfl, hB1, hbw1⟩
  case round =>
    obtain ⟨k, hk, rfl, hBr, hbr⟩ := hrel
    have hsz := hbr.size
    by_cases hlt : k < s.size
    · have HN := Lib.hid (escB_snoc (byteOf hlt))
      have hle : (34 :: escB (s.data.toList.take k)).length + 3 ≤ 140737488355328 := by
        have := escB_len (s.data.toList.take k)
        rw [List.length_take] at this
        simp only [List.length_cons]
        omega
      have HU : Hid (∀ c : UInt8, escC c = if c.toNat = 34 ∨ c.toNat = 92 then [92, c] else [c]) := fun _ => rfl
      generalize hL : 34 :: escB (s.data.toList.take k) = L at *
      have HL := Lib.hid hL
      clear hL
      by_cases hq : (s[k].toNat : Int) = 34 ∨ (s[k].toNat : Int) = 92
      · have HX : Hid (34 :: escB (s.data.toList.take (k + 1)) = L ++ [92] ++ [s[k]]) := by
          show _ = _
          rw [HN.out, HU.out, if_pos (by omega), ← HL.out]; simp
        by_cases hq1 : (s[k].toNat : Int) = 34
        · have h1 : ((s[k].toNat : Int) == 34) = true := beq_iff_eq.2 hq1
          clear hq hq1
          go_wp2_with fail
          refine (writeByte_any w.heap.size w.heap.size L 92 _ hBr (by omega) hsz).mono ?_
          rintro e w2 ⟨rfl, hB2, hb2, _⟩
          have hs2 := hb2.size
          go_wp2_with fail
          refine (writeByte_any w.heap.size w.heap.size (L ++ [92]) s[k] _ hB2 (by simp; omega) (by omega)).mono ?_
          rintro e w3 ⟨rfl, hB3, hb3, _⟩
          go_wp2_with fail
          go_roundw
          case rel => exact ⟨k + 1, by omega, by go_num, by rw [HX.out]; exact hB3, (hbr.trans hb2).trans hb3⟩
          case measure => simp [intOf]; omega
        · have h1 : ((s[k].toNat : Int) == 34) = false := beq_eq_false_iff_ne.2 hq1
          have h2 : ((s[k].toNat : Int) == 92) = true := beq_iff_eq.2 (by omega)
          clear hq hq1
          go_wp2_with fail
          refine (writeByte_any w.heap.size w.heap.size L 92 _ hBr (by omega) hsz).mono ?_
          rintro e w2 ⟨rfl, hB2, hb2, _⟩
          have hs2 := hb2.size
          go_wp2_with fail
          refine (writeByte_any w.heap.size w.heap.size (L ++ [92]) s[k] _ hB2 (by simp; omega) (by omega)).mono ?_
          rintro e w3 ⟨rfl, hB3, hb3, _⟩
          go_wp2_with fail
          go_roundw
          case rel => exact ⟨k + 1, by omega, by go_num, by rw [HX.out]; exact hB3, (hbr.trans hb2).trans hb3⟩
          case measure => simp [intOf]; omega
      · have HX : Hid (34 :: escB (s.data.toList.take (k + 1)) = L ++ [s[k]]) := by
          show _ = _
          rw [HN.out, HU.out, if_neg (by omega), ← HL.out]; simp
        have h1 : ((s[k].toNat : Int) == 34) = false := beq_eq_false_iff_ne.2 (fun h => hq (Or.inl h))
        have h2 : ((s[k].toNat : Int) == 92) = false := beq_eq_false_iff_ne.2 (fun h => hq (Or.inr h))
        clear hq
        go_wp2_with fail
        refine (writeByte_any w.heap.size w.heap.size L s[k] _ hBr (by omega) hsz).mono ?_
        rintro e w3 ⟨rfl, hB3, hb3, _⟩
        go_wp2_with fail
        go_roundw
        case rel => exact ⟨k + 1, by omega, by go_num, by rw [HX.out]; exact hB3, hbr.trans hb3⟩
        case measure => simp [intOf]; omega
    · obtain rfl : k = s.size := by omega
      have HT : Hid (34 :: escB (s.data.toList.take s.size) ++ [34] = quoteL s.data.toList) := by
        show _ = _
        unfold quoteL
        rw [List.take_of_length_le (by simp)]; rfl
      have hle : (34 :: escB (s.data.toList.take s.size)).length + 3 ≤ 140737488355328 := by
        have := escB_len (s.data.toList.take s.size)
        rw [List.length_take] at this
        simp only [List.length_cons]
        omega
      generalize 34 :: escB (s.data.toList.take s.size) = L at *
      go_wp2_with fail
      refine (writeByte_any w.heap.size w.heap.size L 34 _ hBr (by omega) hsz).mono ?_
      rintro e w2 ⟨rfl, hB2, hb2, _⟩
      have hs2 := hb2.size
      go_wp2_with fail
      refine (string_any w.heap.size w.heap.size (L ++ [34]) _ hB2 (by omega)).mono ?_
      rintro e w3 ⟨rfl, hB3, hb3, _⟩
      go_wp2_with fail
      go_ret
      refine ⟨?_, (hbr.trans hb2).trans hb3⟩
      rw [HT.out]; rfl
def quoteE (s : ByteArray) : ByteArray × Int := if 16384 < s.size then (⟨#[]⟩, 5) else if plainS s then (quoteS s, 0) else (⟨#[]⟩, 3)
theorem ret_si {a b : ByteArray} {c d : Int} (h : (a, c) = (b, d)) : Ending.returned (.tuple #[.string a, .int .i64 c]) = .returned (.tuple #[.string b, .int .i64 d]) := by injection h with h1 h2; rw [h1, h2]
set_option maxHeartbeats 400000 in
theorem quote_any (s : ByteArray) (w : World) (hs : s.size ≤ maxLen) : Calls Tryz.prog 133 #[.string s] w fun e w' => e = .returned (.tuple #[.string (quoteE s).1, .int .i64 (quoteE s).2]) ∧ Below w.heap.size w w' := by
  have hs0 := hs
  unfold maxLen at hs
  go_enter Tryz.func133, Tryz.ntmps133
  by_cases h1 : 16384 < s.size
  · have HE : Hid (quoteE s = (⟨#[]⟩, 5)) := if_pos h1
    go_wp2_with fail
    go_ret2
    exact ⟨ret_si (by rw [HE.out]), Below.refl _ _⟩
  have HE : Hid (quoteE s = if plainS s then (quoteS s, 0) else (⟨#[]⟩, 3)) := if_neg h1
  go_wp2_with fail
  refine (printable_any s _ hs0).mono ?_
  rintro e w1 ⟨rfl, rfl⟩
  generalize plainS s = q at *
  cases q
  · go_wp2_with fail
    go_ret2
    exact ⟨ret_si (by rw [HE.out]; rfl), Below.refl _ _⟩
  · go_wp2_with fail
    refine (literal_any s _ (by omega)).mono ?_
    rintro e w2 ⟨rfl, hb2⟩
    go_wp2_with fail
    go_ret2
    exact ⟨ret_si (by rw [HE.out]; rfl), hb2⟩
end Go.Proofs.YtijmnenojbfdnaaGreatDoor

namespace Go.Proofs.YtijmnenojbfdnaaGreatDoor
open Go.RowKit
theorem var_now {P : Program} {w w' : World} {n : String} {cs : Array Value} (h : w.var? P n = some cs) (hb : Below w.heap.size w w') : w'.var? P n = some cs := by
  unfold World.var? at h ⊢
  obtain ⟨g, hg, h1⟩ := Option.bind_eq_some_iff.1 h
  rw [hg]
  show (match w'.heap[g]? with | some (.cells cs _ _) => some cs | _ => none) = some cs
  have hlt : g < w.heap.size := by
    rcases Nat.lt_or_ge g w.heap.size with h' | h'
    · exact h'
    · rw [Array.getElem?_eq_none h'] at h1; cases h1
  rw [hb.block g hlt]
  exact h1
theorem bgrow (w : World) (k : Nat) (os : Array Obj) : Below w.heap.size w (Go.Sort.grow (w.drewN k) os) := by
  refine ⟨rfl, rfl, rfl, ?_, fun b hb => ?_⟩
  · show w.heap.size ≤ (w.heap ++ os).size
    rw [Array.size_append]; omega
  · show (w.heap ++ os)[b]? = w.heap[b]?
    rw [Array.getElem?_append_left hb]
structure Amb (w : World) : Prop where
  tab : Lib.TabIs Tryz.prog w "internal/strconv.uint64pow10" .u64 Lib.pow10Tab
theorem Amb.now {w w' : World} (h : Amb w) (hb : Below w.heap.size w w') : Amb w' := by
  first
    | (obtain ⟨h1, ⟨t, p, h2⟩, ⟨t', p', h3⟩⟩ := h; exact ⟨var_now h1 hb, ⟨t, p, var_now h2 hb⟩, ⟨t', p', var_now h3 hb⟩⟩)
    | (obtain ⟨h1⟩ := h; exact ⟨var_now h1 hb⟩)
def itoaS (n : Int) : ByteArray := ⟨(Lib.itoa n).toArray⟩
def trueS : ByteArray := ⟨#[116, 114, 117, 101]⟩
def falseS : ByteArray := ⟨#[102, 97, 108, 115, 101]⟩
def textV (v : Val) : ByteArray := if v.kind = 1 then (if v.n = 1 then trueS else falseS) else if v.kind = 2 then itoaS v.n else quoteS v.s
def textE (v : Val) : ByteArray × Int := if validV v then (textV v, 0) else (⟨#[]⟩, 1)
theorem valid3 {v : Val} (h : validV v = true) (h1 : v.kind ≠ 1) (h2 : v.kind ≠ 2) : v.kind = 3 ∧ v.n = 0 ∧ textB v.s = true := by
  unfold validV at h
  rw [if_neg h1, if_neg h2] at h
  split at h
  · rename_i h3
    simp only [Bool.and_eq_true, decide_eq_true_eq] at h
    exact ⟨h3, h⟩
  · cases h
theorem valid1 {v : Val} (h : validV v = true) (h1 : v.kind = 1) : (v.n = 0 ∨ v.n = 1) ∧ noS v.s = true := by
  unfold validV at h
  rw [if_pos h1] at h
  simpa using h
theorem text_size {s : ByteArray} (h : textB s = true) : s.size ≤ 200 ∧ plainS s = true := by
  unfold textB at h
  simp only [Bool.and_eq_true, decide_eq_true_eq] at h
  exact h
theorem quote_of_text {s : ByteArray} (h : textB s = true) : quoteE s = (quoteS s, 0) := by
  obtain ⟨h1, h2⟩ := text_size h
  unfold quoteE
  rw [if_neg (by omega), h2]; rfl
set_option maxHeartbeats 1000000 in
theorem textE_any (v : Val) (w : World) (hf : FitV v) (ha : Amb w) :
    Calls Tryz.prog 93 #[valV v] w fun e w' => e = .returned (.tuple #[.string (textE v).1, .int .i64 (textE v).2]) ∧ Below w.heap.size w w' := by
  have hb := bone w (.cells #[.int .i64 v.kind, .int .i64 v.n, .string v.s] 25)
  have hB := Blk.new w 25 #[.int .i64 v.kind, .int .i64 v.n, .string v.s]
  have ha1 := ha.now hb
  unfold valV
  go_enter Tryz.func93, Tryz.ntmps93
  go_wp2_with fail
  refine (validV_any v _ hf).mono ?_
  rintro e w2 ⟨rfl, hb2⟩
  have hB2 := hB.now hb2
  have hbw2 := bthen hb hb2
  have ha2 := ha1.now hb2
  obtain ⟨y0, y1, y2⟩ := hB2.c3
  generalize hq : validV v = q
  have HQ := Lib.hid hq
  clear hq
  cases q
  · have HE : Hid (textE v = (⟨#[]⟩, 1)) := by show _ = _; unfold textE; rw [HQ.out]; rfl
    go_wp2_with fail
    go_ret2
    exact ⟨ret_si (by rw [HE.out]), hbw2⟩
  have HE : Hid (textE v = (textV v, 0)) := by show _ = _; unfold textE; rw [HQ.out]; rfl
  obtain ⟨k, n, s⟩ := v
  obtain ⟨g1, g2, g3⟩ := hf
  unfold Fit at g1 g2
  dsimp only at *
  by_cases k1 : k = 1
  · subst k1
    rcases (valid1 HQ.out rfl).1 with hn | hn
    · dsimp only at hn
      subst hn
      have HT : Hid (textV ⟨1, 0, s⟩ = falseS) := rfl
      go_wp2_with fail
      refine (Tryz.strconv_FormatBool _ _).mono ?_
      rintro e w3 ⟨rfl, rfl⟩
      go_wp2_with fail
      go_ret2
      exact ⟨ret_si (by rw [HE.out, HT.out]; rfl), hbw2⟩
    · dsimp only at hn
      subst hn
      have HT : Hid (textV ⟨1, 1, s⟩ = trueS) := rfl
      go_wp2_with fail
      refine (Tryz.strconv_FormatBool _ _).mono ?_
      rintro e w3 ⟨rfl, rfl⟩
      go_wp2_with fail
      go_ret2
      exact ⟨ret_si (by rw [HE.out, HT.out]; rfl), hbw2⟩
  by_cases k2 : k = 2
  · subst k2
    have HT : Hid (textV ⟨2, n, s⟩ = itoaS n) := rfl
    go_wp2_with fail
    refine (Tryz.strconv_Itoa n g2.1 g2.2 _ ha2.tab).mono ?_
    rintro e w3 ⟨rfl, kk, os, rfl⟩
    go_wp2_with fail
    go_ret2
    exact ⟨ret_si (by rw [HE.out, HT.out]; rfl), bthen hbw2 (bgrow w2 kk os)⟩
  · obtain ⟨k3, n0, ht⟩ := valid3 HQ.out k1 k2
    dsimp only at k3 n0 ht
    subst k3 n0
    have HT : Hid (textV ⟨3, 0, s⟩ = quoteS s) := rfl
    have HU := Lib.hid (quote_of_text ht)
    clear k1 k2
    go_wp2_with fail
    refine (quote_any s _ g3).mono ?_
    rintro e w3 ⟨rfl, hb3⟩
    rw [HU.out]
    go_wp2_with fail
    go_ret2
    exact ⟨ret_si (by rw [HE.out, HT.out]), bthen hbw2 hb3⟩
end Go.Proofs.YtijmnenojbfdnaaGreatDoor

namespace Go.Proofs.YtijmnenojbfdnaaGreatDoor
open Go.RowKit
section
variable {α : Type} {fc : α → List Value} {size : Nat}
def flat (fc : α → List Value) (xs : List α) : List Value := xs.flatMap fc
theorem flat_len (hfc : ∀ x, (fc x).length = size) (xs : List α) : (flat fc xs).length = xs.length * size := by
  induction xs with
  | nil => simp [flat]
  | cons x xs ih =>
    have : flat fc (x :: xs) = fc x ++ flat fc xs := rfl
    rw [this, List.length_append, hfc, ih, List.length_cons, Nat.succ_mul]; omega
theorem flat_get (hfc : ∀ x, (fc x).length = size) (xs : List α) : ∀ (i j : Nat) (x : α), xs[i]? = some x → j < size → (flat fc xs)[i * size + j]? = (fc x)[j]? := by
  induction xs with
  | nil => intro i j x hx; simp at hx
  | cons y xs ih =>
    intro i j x hx hj
    have e : flat fc (y :: xs) = fc y ++ flat fc xs := rfl
    rw [e]
    cases i with
    | zero =>
      injection hx with hx; subst hx
      rw [Nat.zero_mul, Nat.zero_add, List.getElem?_append_left (by rw [hfc]; exact hj)]
    | succ i =>
      rw [List.getElem?_append_right (by rw [hfc, Nat.succ_mul]; omega), hfc]
      have : (i + 1) * size + j - size = i * size + j := by rw [Nat.succ_mul]; omega
      rw [this]
      exact ih i j x (by simpa using hx) hj
theorem flat_at (hfc : ∀ x, (fc x).length = size) (hs : 0 < size) (xs : List α) {j : Nat} {u : Value} (h : (flat fc xs)[j]? = some u) : ∃ i r x, j = i * size + r ∧ r < size ∧ xs[i]? = some x ∧ (fc x)[r]? = some u := by
  have hj : j < xs.length * size := by
    rw [← flat_len hfc]
    rcases Nat.lt_or_ge j (flat fc xs).length with h' | h'
    · exact h'
    · rw [List.getElem?_eq_none h'] at h; cases h
  have hi : j / size < xs.length := Nat.div_lt_of_lt_mul (by rw [Nat.mul_comm]; exact hj)
  have hr : j % size < size := Nat.mod_lt _ hs
  have e : j = j / size * size + j % size := by rw [Nat.mul_comm]; exact (Nat.div_add_mod j size).symm
  refine ⟨j / size, j % size, xs[j / size], e, hr, List.getElem?_eq_getElem hi, ?_⟩
  rw [← flat_get hfc xs (j / size) (j % size) _ (List.getElem?_eq_getElem hi) hr, ← e]
  exact h
theorem flat_append (xs ys : List α) : flat fc (xs ++ ys) = flat fc xs ++ flat fc ys := by simp [flat]
def OwnW (size : Nat) (fc : α → List Value) (w : World) (base t : Nat) (v : Value) (xs : List α) : Prop := w.ownsRow base t size v xs.length (flat fc xs)
variable {R : ElemR α} {w w' : World} {base t : Nat} {v : Value} {xs : List α}
theorem OwnW.nil : OwnW size fc w base t (.slice none 0 0) ([] : List α) := World.ownsRow_nil _ _ _ _
theorem OwnW.now (h : OwnW size fc w base t v xs) (hb : Below w.heap.size w w') : OwnW size fc w' base t v xs := own_now h hb
theorem OwnW.sl (h : OwnW size fc w base t v xs) (hfc : ∀ x, (fc x).length = size) (hR : ∀ D w x, x ∈ xs → R D w x (fc x)) : Sl size R (Lt w.heap.size) w v xs :=
  Sl.of_own h rfl (own_lt h) fun i x hx => ⟨fc x, hfc x, fun j u hu => by
    have hj : j < size := by
      rw [← hfc x]
      rcases Nat.lt_or_ge j (fc x).length with h' | h'
      · exact h'
      · rw [List.getElem?_eq_none h'] at hu; cases hu
    rw [flat_get hfc xs i j x hx hj]; exact hu, hR _ _ x (List.mem_of_getElem? hx)⟩
theorem OwnW.form (h : OwnW size fc w base t v xs) (hn : 0 < xs.length) : ∃ g cap, v = .slice (some ⟨g, 0, none⟩) xs.length cap ∧ xs.length ≤ cap ∧ base ≤ g ∧ g < w.heap.size := by
  have hl := World.ownsRow.lt h
  rcases h.2 with ⟨_, h0⟩ | ⟨g, cap, cur, rfl, hb, hg, hc, hm, hs, htake⟩
  · omega
  · exact ⟨g, cap, rfl, hc, hb, (hl g rfl).2⟩
theorem wp_appendAllW {P : Program} {e : Nat} {D : Nat → Prop} {o : Oper} {a : Act} {K : Act → World → Prop} {Q : Exit → Act → World → Prop} (hI : AppInfo P t e size) (s x : Operand)
    (ho : o.op = .call { callee := .builtin .append, args := #[s, x], argTypes := #[t, t] }) (w : World) (hfc : ∀ x, (fc x).length = size) (xs : List α)
    (v : Value) (hs : a.eval s = v) (hown : OwnW size fc w base e v xs) (u : Value) (ys : List α) (hx : a.eval x = u) (hu : Sl size R D w u ys) (hf : ∀ y c, R D w y c → c = fc y) (h1 : ∀ y, ∀ u ∈ fc y, u.oneCell' = true) (hn : xs.length + ys.length < 10000000) (hbase : base ≤ w.heap.size)
    (h : ∀ v' w', OwnW size fc w' base e v' (xs ++ ys) → w.grownBy w' v.ownBlock → (v'.ownBlock = v.ownBlock ∨ v'.ownBlock = some w.heap.size) → K (a.put o.dst v') w') : o.wp P a w K Q := by
  obtain ⟨i, z, ht, hi, hz, hsz, hby, hzs, hp⟩ := hI
  obtain ⟨A, c, rfl, hc1, hc2, hu⟩ := hu.open_
  unfold OwnW at hown
  have key : ∃ v' w', (Builtin.append_ #[t, t] o.type #[v, .slice A ys.length c]).run P w = .ok v' w' ∧ OwnW size fc w' base e v' (xs ++ ys) ∧ w.grownBy w' v.ownBlock ∧ (v'.ownBlock = v.ownBlock ∨ v'.ownBlock = some w.heap.size) := by
    unfold OwnW
    rw [flat_append, List.length_append]
    rcases Nat.eq_zero_or_pos ys.length with h0 | h0
    · have : ys = [] := List.eq_nil_of_length_eq_zero h0
      subst this
      rcases A with _ | ad
      · refine ⟨v, w, ?_, by simpa [flat] using hown, World.grownBy.refl w _, .inl rfl⟩
        rcases hown.2 with ⟨rfl, h0⟩ | ⟨g, cap, cur, rfl, _, _, hnc, _⟩
        · simp [Builtin.append_, run_underlying ht, sizeOf, typeInfo, hi, Builtin.lenOf, Builtin.firstCells]
        · simp [Builtin.append_, run_underlying ht, sizeOf, typeInfo, hi, Builtin.lenOf, Builtin.firstCells, hnc, storeCells]
      · obtain ⟨v', w', hrun, h2, h3, _, h5⟩ := run_append_own_at (P := P) w base t o.type e i z size i.bytes ht hi hz hsz rfl hzs hp v _ _ hown ad 0 c [] (by simp) (fun j u hj => by simp at hj) (by simp) (by unfold maxLen; simp at hn; omega) (by
          have : (xs.length + 0) * i.bytes ≤ 10000000 * 4096 := Nat.mul_le_mul (by simp at hn; omega) hby
          omega) hbase
        exact ⟨v', w', hrun, h2, h3, h5⟩
    · obtain ⟨_, _, _, h3⟩ := hu
      have hrow : ∃ b off, A = some ⟨b, off, none⟩ ∧ ∀ j u, (flat fc ys)[j]? = some u → w.cell? ⟨b, off + j, none⟩ = some u := by
        obtain ⟨A', c', hv, _, _, h3⟩ := (show Sl size R D w (.slice A ys.length c) ys from ‹_›)
        injection hv with hA _ _
        subst hA
        obtain ⟨b, off, _, hA, _⟩ := h3 0 ys[0] (List.getElem?_eq_getElem h0)
        refine ⟨b, off, hA, fun j u hj => ?_⟩
        obtain ⟨i, r, y, rfl, hr, hy, hfu⟩ := flat_at hfc (by omega) ys hj
        obtain ⟨b', off', cs, hA', _, _, hR, hcell⟩ := h3 i y hy
        rw [hA] at hA'
        injection hA' with hA'
        injection hA' with e1 e2 _
        subst e1 e2
        rw [hf y cs hR] at hcell
        have := hcell r u hfu
        rwa [Nat.add_assoc] at this
      obtain ⟨b, off, rfl, hc⟩ := hrow
      obtain ⟨v', w', hrun, h2, h3, _, h5⟩ := run_append_own_at (P := P) w base t o.type e i z size i.bytes ht hi hz hsz rfl hzs hp v _ _ hown ⟨b, off, none⟩ ys.length c (flat fc ys) (flat_len hfc ys) (fun j u hj => by
          have : ((⟨b, off, none⟩ : Addr).add j) = ⟨b, off + j, none⟩ := by unfold Addr.add; by_cases hj : j = 0 <;> simp [hj]
          rw [this]; exact hc j u hj) (by intro u hu; obtain ⟨y, _, hy⟩ := List.mem_flatMap.1 hu; exact h1 y u hy) (by unfold maxLen; omega) (by
          have : (xs.length + ys.length) * i.bytes ≤ 10000000 * 4096 := Nat.mul_le_mul (by omega) hby
          omega) hbase
      exact ⟨v', w', hrun, h2, h3, h5⟩
  obtain ⟨v', w', hrun, h2, h3, h5⟩ := key
  unfold Oper.wp execOp
  simp only [ho, resolve, invoke, builtin, Sem.run_bind, Sem.run_pure, Result.andThen_ok, List.map_toArray, List.map_cons, List.map_nil, hs, hx, hrun]
  exact h v' w' h2 h3 h5
theorem wpList_appendAllW {P : Program} {e : Nat} {D : Nat → Prop} {ops : Array Oper} {rest : List Oper} {o : Oper} {a : Act} {Q : Exit → Act → World → Prop} (hI : AppInfo P t e size) (hgd : o.guard = none) (s x : Operand)
    (ho : o.op = .call { callee := .builtin .append, args := #[s, x], argTypes := #[t, t] }) (w : World) (hfc : ∀ x, (fc x).length = size) (xs : List α)
    (v : Value) (hs : a.eval s = v) (hown : OwnW size fc w base e v xs) (u : Value) (ys : List α) (hx : a.eval x = u) (hu : Sl size R D w u ys) (hf : ∀ y c, R D w y c → c = fc y) (h1 : ∀ y, ∀ u ∈ fc y, u.oneCell' = true) (hn : xs.length + ys.length < 10000000) (hbase : base ≤ w.heap.size)
    (h : ∀ v' w', OwnW size fc w' base e v' (xs ++ ys) → w.grownBy w' v.ownBlock → (v'.ownBlock = v.ownBlock ∨ v'.ownBlock = some w.heap.size) → wpList P ops Q rest (a.put o.dst v') w') : wpList P ops Q (o :: rest) a w :=
  wpList_plain hgd fun _ hK => wp_appendAllW hI s x ho w hfc xs v hs hown u ys hx hu hf h1 hn hbase fun v' w' h2 h3 h4 => hK _ _ (h v' w' h2 h3 h4)
theorem wpList_pushW {P : Program} {e : Nat} {ops : Array Oper} {rest : List Oper} {o : Oper} {a : Act} {Q : Exit → Act → World → Prop} (hI : AppInfo P t e size) (hgd : o.guard = none) (s x : Operand)
    (ho : o.op = .call { callee := .builtin .append, args := #[s, x], argTypes := #[t, t] }) (w0 : World) (y : α) (xs : List α) (hfc : (fc y).length = size) (h1 : ∀ u ∈ fc y, u.oneCell' = true)
    (v : Value) (hs : a.eval s = v) (hown : OwnW size fc w0 base e v xs) (hx : a.eval x = .slice (some ⟨w0.heap.size, 0, none⟩) 1 1) (hn : xs.length < 10000000) (hbase : base ≤ w0.heap.size)
    (h : ∀ v' w', OwnW size fc w' base e v' (xs ++ [y]) → w0.grownBy w' v.ownBlock → (v'.ownBlock = v.ownBlock ∨ v'.ownBlock = some (w0.heap.size + 1)) → wpList P ops Q rest (a.put o.dst v') w') : wpList P ops Q (o :: rest) a (w0.alloc (.cells (fc y).toArray e)) :=
  wpList_push hI hgd s x ho w0 (fc y) hfc h1 v xs.length (flat fc xs) hs hown hx hn hbase fun v' w' h2 h3 h4 => h v' w' (by
    unfold OwnW
    rw [flat_append, List.length_append]
    simpa [flat] using h2) h3 h4
end
end Go.Proofs.YtijmnenojbfdnaaGreatDoor

namespace Go.Proofs.YtijmnenojbfdnaaGreatDoor
open Go.RowKit
def cellsV (v : Val) : List Value := [.int .i64 v.kind, .int .i64 v.n, .string v.s]
theorem cellsV_len (v : Val) : (cellsV v).length = 3 := rfl
theorem cellsV_one (v : Val) : ∀ u ∈ cellsV v, u.oneCell' = true := by intro u hu; simp [cellsV] at hu; rcases hu with rfl | rfl | rfl <;> rfl
def OwnV (w : World) (base : Nat) (v : Value) (vs : List Val) : Prop := OwnW 3 cellsV w base 25 v vs
theorem appVals : AppInfo Tryz.prog 23 25 3 := AppInfo.mk' (z := .agg #[.int .i64 0, .int .i64 0, .string ⟨#[]⟩]) (bytes := 32) Tryz.underlying23 (by kernel_rfl) (by decide) rfl (by decide)
theorem OwnV.now {w w' : World} {base : Nat} {v : Value} {vs : List Val} (h : OwnV w base v vs) (hb : Below w.heap.size w w') : OwnV w' base v vs := OwnW.now h hb
theorem OwnV.sl {w : World} {base : Nat} {v : Value} {vs : List Val} (h : OwnV w base v vs) (hf : ∀ x ∈ vs, FitV x) : SlV (Lt w.heap.size) w v vs := OwnW.sl h cellsV_len (fun _ _ x hx => ⟨rfl, hf x hx⟩)
theorem SlV.fits {D : Nat → Prop} {w : World} {v : Value} {vs : List Val} (h : SlV D w v vs) : ∀ x ∈ vs, FitV x := by
  obtain ⟨A, c, rfl, h1, h2, h⟩ := h.open_
  intro z hz
  obtain ⟨k, hk, rfl⟩ := List.mem_iff_getElem.1 hz
  obtain ⟨b, o, y, _, _, hy, hs, _⟩ := h.at_ hk
  rw [List.getElem?_eq_getElem hk] at hy
  injection hy with hy
  rw [hy]; exact hs
def AsksV (k : FuncId) (w : World) (xs : List Val) (p : Val → Bool) : Prop :=
  ∀ (x : Val) (w1 : World), x ∈ xs → FitV x → Below w.heap.size w w1 → Calls Tryz.prog k #[valV x] w1 fun e w2 => e = .returned (.bool (p x)) ∧ Below w1.heap.size w1 w2
set_option maxHeartbeats 400000 in
theorem indexFuncV (k : FuncId) (eg : ∀ args w, (callFunc k args).run Tryz.prog w = .ok (.enter k args) w) (tv : Value) (ts : List Val) (p : Val → Bool) (w : World) (ht : SlV (Lt w.heap.size) w tv ts) (hf : AsksV k w ts p) :
    Calls Tryz.prog 43 #[tv, .func (.func k) #[] #[]] w fun e w' => ∃ z : Int, e = .returned (.int .i64 z) ∧ decide (0 ≤ z) = ts.any p ∧ Below w.heap.size w w' := by
  obtain ⟨A, c, rfl, h1, h2, ht⟩ := ht.open_
  have HF := Lib.hid hf
  clear hf
  go_enter Tryz.func43, Tryz.ntmps43
  go_wp2_with fail
  go_loopw [8] (fun i wr => ∃ j : Nat, j ≤ ts.length ∧ i = .int .i64 j ∧ (∀ q t, q < j → ts[q]? = some t → p t = false) ∧ Below w.heap.size w wr) (fun i _ => ts.length - (intOf i).toNat)
  case atStart => exact ⟨0, Nat.zero_le _, rfl, fun q _ h => absurd h (by omega), Below.refl _ _⟩
  case round =>
    obtain ⟨j, hj, rfl, hp, hb⟩ := hrel
    have HP := Lib.hid hp
    clear hp
    by_cases hlt : j < ts.length
    · obtain ⟨b, o, t, rfl, hD, hx, hf, c0, c1, c2⟩ := (ht.now hb).at_ hlt
      have hcall := HF.out t wr (List.mem_of_getElem? hx) hf hb
      have HX := Lib.hid hx
      clear hx
      generalize hq : p t = q at *
      have HQ := Lib.hid hq
      unfold valV at hcall
      have HC := Lib.hid hcall
      clear hcall hq
      cases q
      · go_wp2_with (go_at_fn k; refine HC.out.mono ?_; rintro e w' ⟨rfl, hb'⟩)
        go_roundw
        case rel =>
          refine ⟨j + 1, by omega, by go_num, fun q y hq hy => ?_, bthen hb hb'⟩
          by_cases e : q = j
          · subst e; rw [HX.out] at hy; injection hy with hy; subst hy; exact HQ.out
          · exact HP.out q y (by omega) hy
        case measure => simp [intOf]; omega
      · go_wp2_with (go_at_fn k; refine HC.out.mono ?_; rintro e w' ⟨rfl, hb'⟩)
        go_ret
        refine ⟨_, rfl, ?_, bthen hb hb'⟩
        rw [List.any_eq_true.2 ⟨t, List.mem_of_getElem? HX.out, HQ.out⟩]
        simp
    · go_wp2_with fail
      go_ret
      refine ⟨_, rfl, ?_, hb⟩
      rw [any_false_of _ ts (fun q y hq hy => HP.out q y (by omega) hy)]
      simp
theorem containsFuncV (k : FuncId) (eg : ∀ args w, (callFunc k args).run Tryz.prog w = .ok (.enter k args) w) (tv : Value) (ts : List Val) (p : Val → Bool) (w : World) (ht : SlV (Lt w.heap.size) w tv ts) (hf : AsksV k w ts p) :
    Calls Tryz.prog 11 #[tv, .func (.func k) #[] #[]] w fun e w' => e = .returned (.bool (ts.any p)) ∧ Below w.heap.size w w' := by
  have HC := Lib.hid (indexFuncV k eg tv ts p w ht hf)
  clear hf ht
  go_enter Tryz.func11, Tryz.ntmps11
  go_wp2_with (go_at_call 43; refine HC.out.mono ?_; rintro e w' ⟨z, rfl, hz, hb'⟩)
  go_ret
  exact ⟨rfl, hb'⟩
set_option maxHeartbeats 400000 in
theorem valid1_any (v : Val) (w : World) (hf : FitV v) : Calls Tryz.prog 109 #[valV v] w fun e w' => e = .returned (.bool (!validV v)) ∧ Below w.heap.size w w' := by
  have hb := bone w (.cells #[.int .i64 v.kind, .int .i64 v.n, .string v.s] 25)
  unfold valV
  go_enter Tryz.func109, Tryz.ntmps109
  go_wp2_with fail
  refine (validV_any v _ hf).mono ?_
  rintro e w2 ⟨rfl, hb2⟩
  generalize hq : validV v = q
  have HQ := Lib.hid hq
  clear hq
  go_wp2_with fail
  go_ret
  exact ⟨ret_bool (by rw [HQ.out]), bthen hb hb2⟩
theorem any_not_allV (l : List Val) : (l.any fun x => !validV x) = !l.all validV := by
  induction l with
  | nil => rfl
  | cons a m ih => simp [List.any_cons, List.all_cons, ih]
def okB (l : List Var) (vs : List Val) : Bool := varsB l && vs.all validV
set_option maxHeartbeats 400000 in
theorem validVs_any (l : List Var) (vs : List Val) (u v : Value) (w : World) (h : SlX (Lt w.heap.size) w u l) (hv : SlV (Lt w.heap.size) w v vs) (hl : l.length ≤ 1000000) :
    Calls Tryz.prog 69 #[u, v] w fun e w' => e = .returned (.bool (okB l vs)) ∧ Below w.heap.size w w' := by
  have eg : ∀ args w, (callFunc 109 args).run Tryz.prog w = .ok (.enter 109 args) w := enters_of Tryz.func109 (by kernel_rfl) rfl
  go_enter Tryz.func69, Tryz.ntmps69
  go_wp2_with fail
  refine (validVars_any l u _ h hl).mono ?_
  rintro e w2 ⟨rfl, hb2⟩
  have HO : Hid (okB l vs = (varsB l && vs.all validV)) := rfl
  generalize varsB l = q at *
  cases q
  · go_wp2_with fail
    go_ret
    exact ⟨ret_bool (by rw [HO.out]; rfl), hb2⟩
  · go_wp2_with fail
    refine (containsFuncV _ eg v vs (fun x => !validV x) _ (hv.now hb2) (fun x w1 _ hf _ => valid1_any x w1 hf)).mono ?_
    rintro e w3 ⟨rfl, hb3⟩
    rw [any_not_allV]
    generalize vs.all validV = p at *
    go_wp2_with fail
    go_ret
    exact ⟨ret_bool (by rw [HO.out]; simp), bthen hb2 hb3⟩
def firstV (l : List Var) : List Val := l.map fun x => nthV x 0
theorem firstV_snoc {l : List Var} {k : Nat} {x : Var} (h : l[k]? = some x) : firstV (l.take (k + 1)) = firstV (l.take k) ++ [nthV x 0] := by
  unfold firstV
  rw [List.take_add_one, h, List.map_append]; rfl
theorem vars_each {l : List Var} (h : varsB l = true) {k : Nat} {x : Var} (hx : l[k]? = some x) : varB x = true := by
  unfold varsB at h
  simp only [Bool.and_eq_true] at h
  exact List.all_eq_true.1 h.1.2 x (List.mem_of_getElem? hx)
theorem vars_len {l : List Var} (h : varsB l = true) : l.length ≤ 8 := by
  unfold varsB at h
  simp only [Bool.and_eq_true, decide_eq_true_eq] at h
  exact h.1.1
theorem size_pos {x : Var} (h : Tame x) : 1 ≤ sizeV x := by
  obtain ⟨nm, k, lo, hi, its⟩ := x
  obtain ⟨_, _, ld, lk, li⟩ := h
  dsimp only at ld lk li
  rcases lk with rfl | rfl | rfl
  · show (1 : Int) ≤ 2; omega
  · show 1 ≤ hi - lo + 1; have := ld rfl; omega
  · show (1 : Int) ≤ its.length; have := li rfl; omega
theorem vars_items {D : Nat → Prop} {w : World} {u : Value} {l : List Var} (h : SlX D w u l) : ∀ x ∈ l, ∀ z ∈ x.items, z.size ≤ maxLen := by
  obtain ⟨A, c, rfl, h1, h2, h⟩ := h.open_
  intro x hx
  obtain ⟨k, hk, rfl⟩ := List.mem_iff_getElem.1 hx
  obtain ⟨b, o, y, iv, _, _, hy, hv, _⟩ := h.at_ hk
  rw [List.getElem?_eq_getElem hk] at hy
  injection hy with hy
  rw [hy]; exact hv.sizes
theorem firstV_fits {D : Nat → Prop} {w : World} {u : Value} {l : List Var} (h : SlX D w u l) (hv : varsB l = true) : ∀ v ∈ firstV l, FitV v := by
  intro v hm
  obtain ⟨x, hx, rfl⟩ := List.mem_map.1 hm
  obtain ⟨k, hk, rfl⟩ := List.mem_iff_getElem.1 hx
  have ht := tame_of (vars_each hv (List.getElem?_eq_getElem hk))
  exact fit_nth ht (i := 0) (by have := size_pos ht; omega) (vars_items h _ hx)
def firstE (l : List Var) : List Val × Int := if varsB l then (firstV l, 0) else ([], 1)
def RetVE (vs : List Val) (z : Int) (w : World) (e : Ending) (w' : World) : Prop := ∃ v, e = .returned (.tuple #[v, .int .i64 z]) ∧ SlV (Lt w'.heap.size) w' v vs ∧ Below w.heap.size w w'
set_option maxHeartbeats 1000000 in
theorem firstE_any (l : List Var) (u : Value) (w : World) (h : SlX (Lt w.heap.size) w u l) (hl : l.length ≤ 1000000) :
    Calls Tryz.prog 106 #[u] w (RetVE (firstE l).1 (firstE l).2 w) := by
  have hfv := firstV_fits h
  obtain ⟨A, c, rfl, h1, h2, ht⟩ := h.open_
  have HF := Lib.hid hfv
  clear h hfv
  go_enter Tryz.func106, Tryz.ntmps106
  go_wp2_with fail
  refine (validVars_any l _ _ ht hl).mono ?_
  rintro e w2 ⟨rfl, hb2⟩
  have hx2 := ht.now hb2
  generalize hq : varsB l = q
  have HQ := Lib.hid hq
  clear hq
  cases q
  · have HE : Hid (firstE l = ([], 1)) := by show _ = _; unfold firstE; rw [HQ.out]; rfl
    go_wp2_with fail
    go_ret2
    rw [HE.out]
    exact ⟨_, rfl, Sl.none_, hb2⟩
  have HE : Hid (firstE l = (firstV l, 0)) := by show _ = _; unfold firstE; rw [HQ.out]; rfl
  have h8 := vars_len HQ.out
  go_wp2_with fail
  go_loopw [4, 12] (fun ov i wr => ∃ j : Nat, j ≤ l.length ∧ i = .int .i64 j ∧ OwnV wr w2.heap.size ov (firstV (l.take j)) ∧ Below w2.heap.size w2 wr) (fun _ i _ => l.length - (intOf i).toNat)
  case atStart => exact ⟨0, Nat.zero_le _, rfl, OwnW.nil, Below.refl _ _⟩
  case round =>
    obtain ⟨j, hj, rfl, hown, hb⟩ := hrel
    by_cases hlt : j < l.length
    · obtain ⟨b, o, x, iv, rfl, hD, hx, hvar, hiv, c0, c1, c2, c3, c4⟩ := (hx2.now hb).at_ hlt
      have HX := Lib.hid hx
      have htm := tame_of (vars_each HQ.out hx)
      have hs1 := size_pos htm
      clear hx
      obtain ⟨A2, k2, rfl, g1, g2, hiv⟩ := hiv.open_
      have hb1 := bone wr (.cells #[.string x.name, .int .i64 x.kind, .int .i64 x.low, .int .i64 x.high, .slice A2 x.items.length k2] 68)
      have hvar1 := hvar.now hb1
      have hown1 := hown.now hb1
      go_wp2_with fail
      refine (nth_any x 0 _ _ hvar1 htm (by omega)).mono ?_
      rintro e w3 ⟨rfl, hb3⟩
      have hown3 := hown1.now hb3
      have hb13 := bthen hb1 hb3
      have hlen : (firstV (l.take j)).length < 10000000 := by unfold firstV; rw [List.length_map, List.length_take]; omega
      have hsz3 : w2.heap.size ≤ w3.heap.size := Nat.le_trans hb.size hb13.size
      have HS := Lib.hid (firstV_snoc HX.out)
      unfold valV
      have hz : ((0 : Nat) : Int) = 0 := rfl
      rw [hz]
      go_wp2_with (at_builtin; refine wpList_pushW (fc := cellsV) appVals rfl (.tmp 16) (.tmp 19) rfl w3 (nthV x 0) (firstV (l.take j)) rfl (cellsV_one _) _ rfl hown3 rfl hlen hsz3 ?_; intro v' w' hown' hgr hat)
      have hbg : Below w2.heap.size w3 w' := below_of_grown hgr hsz3 (fun g hg => (World.ownsRow.lt hown3 g hg).1)
      go_roundw
      case rel =>
        refine ⟨j + 1, by omega, by go_num, ?_, (hb.trans (hb13.mono hb.size)).trans hbg⟩
        rw [HS.out]; exact hown'
      case measure => simp [intOf]; omega
    · obtain rfl : j = l.length := by omega
      rw [List.take_of_length_le (Nat.le_refl _)] at hown
      go_wp2_with fail
      go_ret2
      rw [HE.out]
      exact ⟨_, rfl, hown.sl (HF.out HQ.out), bthen hb2 hb⟩
def RetV (vs : List Val) (w : World) (e : Ending) (w' : World) : Prop := ∃ v, e = .returned v ∧ SlV (Lt w'.heap.size) w' v vs ∧ Below w.heap.size w w'
end Go.Proofs.YtijmnenojbfdnaaGreatDoor
