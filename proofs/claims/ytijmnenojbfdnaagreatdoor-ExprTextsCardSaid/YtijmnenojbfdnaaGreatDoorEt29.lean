/- Texts of this seat, merged. -/
import Derived.BigQuiet
import Derived.WalkKit
import Derived.WalkSpells
import Derived.WalkLawsBesides
import Derived.Lib.Hide
import Derived.Deep.Draws
import Derived.Deep.OwnRows
import Derived.Test.YtijmnenojbfdnaaGreatDoorProg
import Derived.Outline
import Derived.Deep.Light
import Derived.Lib.SlicesCompact
import Derived.Deep.RegionWith
import Derived.Deep.QuietTactic
import Derived.Deep.RegionHeld3
import Derived.Shelf.Abstract
import Derived.Laws.IdiomStrings
import Derived.Maps.AppendAt
import Derived.Deep.AppendLies
import Derived.RegionTactic
import Derived.OwnWalk
import Derived.Sort.OwnSorted
import Derived.Lib.Bytes
import Derived.Shelf.Strings.Builder1
import Derived.Shelf.Small.Bits
import Derived.Shelf.Small.Wraps
import Derived.Shelf.Strings.BuilderF
import Derived.Shelf.Strings.BuilderK
import Derived.Shelf.Strconv.Atoi
import Derived.Shelf.Strconv.Itoa0
import Derived.Shelf.Strconv.Itoa1
import Derived.Shelf.LaysM
import Derived.Shelf.Strconv.Itoa2
import Derived.Shelf.Strconv.Itoa3
import Derived.Shelf.Strconv.AtoiErrFast
import Derived.Shelf.Strconv.ParseIntEmpty
import Derived.Shelf.Strconv.AtoiFail
import Derived.Shelf.Strconv.Clone
import Derived.Shelf.Strconv.SyntaxError
import Derived.Shelf.LaysC
import Derived.Shelf.Strconv.ToError
import Derived.Shelf.Strconv.Lower
import Derived.Shelf.Strconv.ParseUint10
import Derived.Shelf.Strconv.ParseUint10Empty
import Derived.Shelf.Strconv.ParseUint10Any
import Derived.Shelf.Strconv.ParseInt10
import Derived.Shelf.Strconv.AtoiLong
import Derived.Shelf.Strconv.AtoiInnerAll
import Derived.Shelf.Strconv.RangeError
import Derived.Shelf.Strconv.ToErrorRange
import Derived.Shelf.Strconv.AtoiAll
import Derived.Shelf.Strconv.ErrVarAll
import Derived.Shelf.Strings.Search1
import Derived.Shelf.Strings.Search2
import Derived.Shelf.Strings.Search3
import Derived.Shelf.Strings.Shaped
import Derived.Shelf.Sort.Plain
import Derived.Shelf.Strings.Prefix
import Derived.Shelf.Strings.BuilderCap
import Derived.Shelf.Slices.Turned
import Derived.Shelf.Slices.Equal
import Derived.Ground.Names2Prog
import Derived.Shelf.Slices.Clone
import Derived.Shelf.Slices.CompactS
import Derived.Shelf.Slices.Cells
import Derived.Shelf.Slices.In.SortNone
import Derived.Shelf.Slices.Empties2
import Derived.Maps.OwnOps
import Derived.Maps.OwnSet
import Derived.Maps.Views
import Derived.StringKeys
import Derived.Lib.Builder
import Derived.Lib.AppendStr
import Derived.Lib.UnsafeStr
import Derived.Lib.FrozenHead2
import Derived.Lib.OthersKept
import Derived.Laws.Externs
import Derived.Test.YtijmnenojbfdnaaGreatDoorChecked
import Derived.Laws.MakeOwn
import Derived.Laws.Entries
import Derived.Laws.BytesString
import Derived.Lib.OwnKind
import Derived.Laws.Runes
import Derived.Laws.Concat
import Derived.Test.YtijmnenojbfdnaaGreatDoorEt01
import Derived.Test.YtijmnenojbfdnaaGreatDoorEt02
import Derived.Test.YtijmnenojbfdnaaGreatDoorEt03
import Derived.Test.YtijmnenojbfdnaaGreatDoorEt04
import Derived.Test.YtijmnenojbfdnaaGreatDoorEt05
import Derived.Test.YtijmnenojbfdnaaGreatDoorEt06
import Derived.Test.YtijmnenojbfdnaaGreatDoorEt07
import Derived.Test.YtijmnenojbfdnaaGreatDoorEt08
import Derived.Test.YtijmnenojbfdnaaGreatDoorEt09
import Derived.Test.YtijmnenojbfdnaaGreatDoorEt10
import Derived.Test.YtijmnenojbfdnaaGreatDoorEt11
import Derived.Test.YtijmnenojbfdnaaGreatDoorEt12
import Derived.Test.YtijmnenojbfdnaaGreatDoorEt13
import Derived.Test.YtijmnenojbfdnaaGreatDoorEt14
import Derived.Test.YtijmnenojbfdnaaGreatDoorEt15
import Derived.Test.YtijmnenojbfdnaaGreatDoorEt16
import Derived.Test.YtijmnenojbfdnaaGreatDoorEt17
import Derived.Test.YtijmnenojbfdnaaGreatDoorEt18
import Derived.Test.YtijmnenojbfdnaaGreatDoorEt19
import Derived.Test.YtijmnenojbfdnaaGreatDoorEt20
import Derived.Test.YtijmnenojbfdnaaGreatDoorEt21
import Derived.Test.YtijmnenojbfdnaaGreatDoorEt22
import Derived.Test.YtijmnenojbfdnaaGreatDoorEt23
import Derived.Test.YtijmnenojbfdnaaGreatDoorEt24
import Derived.Test.YtijmnenojbfdnaaGreatDoorEt25
import Derived.Test.YtijmnenojbfdnaaGreatDoorEt26
import Derived.Test.YtijmnenojbfdnaaGreatDoorEt27
import Derived.Test.YtijmnenojbfdnaaGreatDoorEt28
set_option linter.unusedSimpArgs false
set_option linter.unusedVariables false
namespace Go.Proofs.YtijmnenojbfdnaaGreatDoor
open Go.RowKit
set_option maxHeartbeats 4000000 in
theorem count_ref : ∀ (n : Nat) (x : Ex) (u : Value) (w : World) (a d : Int), IsEx n (Lt w.heap.size) w u x → -1 ≤ a → a ≤ 400 → -1 ≤ d → d ≤ 60 →
    Calls Tryz.prog 56 #[u, .int .i64 a, .int .i64 d] w fun e w' => e = .returned (.int .i64 (cntX x a d)) ∧ Below w.heap.size w w' := by
  intro n
  induction n using Nat.strongRecOn with
  | _ n ih =>
    intro x u w a d h ha1 ha2 hd1 hd2
    have h0 := h
    obtain ⟨lv, rfl, h1, h2, h3, h4⟩ := h
    obtain ⟨A, c, rfl, l1, l2, h4⟩ := h4.open_
    have HE := Lib.hid (cntX_eq x a d)
    have hb := bone w (.cells #[.int .i64 x.op, .int .i64 x.v.kind, .int .i64 x.v.n, .string x.v.s, .string x.s, .slice A x.l.length c] 28)
    have hB := Blk.new w 28 #[.int .i64 x.op, .int .i64 x.v.kind, .int .i64 x.v.n, .string x.v.s, .string x.s, .slice A x.l.length c]
    have hx1 := h0.now hb
    have hl1 := SlE.now h4 hb
    clear h0 h4
    have wa : IntKind.i64.wrap (a - 1) = a - 1 := IntWalk.i64_in _ (by omega)
    have wd : IntKind.i64.wrap (d - 1) = d - 1 := IntWalk.i64_in _ (by omega)
    generalize hw1 : w.alloc (.cells #[.int .i64 x.op, .int .i64 x.v.kind, .int .i64 x.v.n, .string x.v.s, .string x.s, .slice A x.l.length c] 28) = w1 at *
    obtain ⟨q0, q1, q2, q3, q4, q5⟩ := hB.c6
    by_cases c1 : a ≤ 0
    · have HR : Hid (cntX x a d = -1) := by show _ = _; rw [HE.out, if_pos (.inl c1)]
      have c1' : a - 1 < 0 := by omega
      clear c1
      go_enter Tryz.func56, Tryz.ntmps56
      go_wp2_with fail
      go_ret
      exact ⟨by rw [HR.out]; rfl, hb⟩
    have c1' : 0 ≤ a - 1 := by omega
    by_cases c2 : d ≤ 0
    · have HR : Hid (cntX x a d = -1) := by show _ = _; rw [HE.out, if_pos (.inr (.inl c2))]
      have c2' : d < 1 := by omega
      clear c1 c2
      go_enter Tryz.func56, Tryz.ntmps56
      go_wp2_with fail
      go_ret
      exact ⟨by rw [HR.out]; rfl, hb⟩
    have c2' : 1 ≤ d := by omega
    go_enter Tryz.func56, Tryz.ntmps56
    go_wp2_with fail
    refine (shape_ref _ x _ _ hx1).mono ?_
    rintro e w2 ⟨rfl, hb2⟩
    have hbw2 := bthen hb hb2
    have hl2 := SlE.now hl1 hb2
    have hB2 := hB.now hb2
    clear q0 q1 q2 q3 q4 q5 hB hl1 hx1
    obtain ⟨q0, q1, q2, q3, q4, q5⟩ := hB2.c6
    generalize hs : shapeX x = sh at *
    cases sh
    · have HR : Hid (cntX x a d = -1) := by show _ = _; rw [HE.out, if_pos (.inr (.inr rfl))]
      go_wp2_with fail
      go_ret
      exact ⟨by rw [HR.out]; rfl, hbw2⟩
    have HR : Hid (cntX x a d = cntL (x.l.drop 0) (a - 1) (d - 1)) := by show _ = _; rw [HE.out, if_neg (by simp [c1, c2]), List.drop_zero]
    clear HE hs
    go_wp2_with fail
    go_loopw [1, 7] (fun av i wr => ∃ (k : Nat) (a' : Int), k ≤ x.l.length ∧ i = .int .i64 k ∧ av = .int .i64 a' ∧ -1 ≤ a' ∧ a' ≤ 400 ∧ (0 ≤ a' → cntX x a d = cntL (x.l.drop k) a' (d - 1)) ∧ (a' < 0 → cntX x a d = a') ∧ Below w2.heap.size w2 wr) (fun _ i _ => x.l.length - (intOf i).toNat)
    case atStart => exact ⟨0, a - 1, Nat.zero_le _, rfl, rfl, by omega, by omega, fun _ => HR.out, fun h => by omega, Below.refl _ _⟩
    case round =>
      obtain ⟨k, a', hk, rfl, rfl, a1, a2, hc, hn, hbr2⟩ := hrel
      have HC := Lib.hid hc
      have HN := Lib.hid hn
      have hbr := bthen hbw2 hbr2
      have hBr := hB2.now hbr2
      clear hc hn HR q0 q1 q2 q3 q4 q5
      obtain ⟨q0, q1, q2, q3, q4, q5⟩ := hBr.c6
      by_cases hlt : k < x.l.length
      · have i1 : (0 : Int) ≤ (k : Int) := by omega
        have i2 : (k : Int) < (x.l.length : Int) := by omega
        by_cases hz0 : a' < 0
        · have HRR := Lib.hid (HN.out hz0)
          go_wp2_with fail
          go_ret
          exact ⟨by rw [HRR.out]; rfl, hbr⟩
        have hz0' : 0 ≤ a' := by omega
        obtain ⟨b, o, y, lv, n', hn, rfl, hD, hx, hex, hfv, hsl, e0, e1, e2, e3, e4, e5⟩ := (SlE.now hl2 hbr2).at_ hlt
        have HX := Lib.hid (cntL_drop hx a' (d - 1))
        have HLO := Lib.hid (cnt_low y a' (d - 1))
        have HRG := Lib.hid (cnt_range y a' (d - 1) a2)
        obtain ⟨A2, c2', rfl, m1, m2, _⟩ := hsl.open_
        have hcall := Lib.hid (ih n' (by omega) y _ _ a' (d - 1) hex (by omega) a2 (by omega) (by omega))
        clear hx hex hfv hsl hn
        generalize cntX y a' (d - 1) = z at *
        go_wp2_with fail
        refine hcall.out.mono ?_
        rintro e w4 ⟨rfl, hb4⟩
        have hbw4' : Below w2.heap.size w2 w4 := bthen hbr2 hb4
        have HRR : Hid (cntX x a d = if z < 0 then -1 else cntL (x.l.drop (k + 1)) z (d - 1)) := by show _ = _; rw [HC.out hz0', HX.out]
        clear hz0 q0 q1 q2 q3 q4 q5
        go_wp2_with fail
        go_roundw
        case rel =>
          refine ⟨k + 1, z, by omega, by go_num, rfl, ?_, ?_, fun h => by rw [HRR.out, if_neg (by omega)], fun h => by rw [HRR.out, if_pos h, HLO.out h], hbw4'⟩
          · rcases Int.lt_or_le z 0 with h | h
            · have := HLO.out h; omega
            · omega
          · have := HRG.out; omega
        case measure => simp [intOf]; omega
      · have i2 : (x.l.length : Int) ≤ (k : Int) := by omega
        have HRR : Hid (cntX x a d = a') := by
          show _ = _
          rcases Int.lt_or_le a' 0 with h | h
          · exact HN.out h
          · rw [HC.out h, List.drop_eq_nil_of_le (by omega), cntL_nil]
        go_wp2_with fail
        go_ret
        exact ⟨by rw [HRR.out]; rfl, hbr⟩
theorem validX_ref (n : Nat) (x : Ex) (u : Value) (w : World) (h : IsEx n (Lt w.heap.size) w u x) :
    Calls Tryz.prog 19 #[u] w fun e w' => e = .returned (.bool (validX x)) ∧ Below w.heap.size w w' := by
  have h0 := h
  obtain ⟨lv, rfl, h1, h2, h3, h4⟩ := h
  have hb := bone w (.cells #[.int .i64 x.op, .int .i64 x.v.kind, .int .i64 x.v.n, .string x.v.s, .string x.s, lv] 28)
  have hc := count_ref n x _ _ 400 60 (h0.now hb) (by omega) (by omega) (by omega) (by omega)
  have HC := Lib.hid hc
  have HV : Hid (validX x = decide (0 ≤ cntX x 400 60)) := rfl
  clear hc h4 h0
  generalize cntX x 400 60 = z at *
  go_enter Tryz.func19, Tryz.ntmps19
  go_wp2_with fail
  refine HC.out.mono ?_
  rintro e w2 ⟨rfl, hb2⟩
  have hbw := bthen hb hb2
  clear hb hb2 HC
  go_wp2_with fail
  go_ret
  exact ⟨ret_bool HV.out.symm, hbw⟩
end Go.Proofs.YtijmnenojbfdnaaGreatDoor

namespace Go.Proofs.YtijmnenojbfdnaaGreatDoor
open Go.RowKit
def RetTr (w : World) (e : Ending) (w' : World) : Prop := e = .returned (.bool true) ∧ Below w.heap.size w w'
abbrev exC6 (x : Ex) (Ax : Option Addr) (cx : Nat) : Array Value := #[.int .i64 x.op, .int .i64 x.v.kind, .int .i64 x.v.n, .string x.v.s, .string x.s, .slice Ax x.l.length cx]
theorem ex_one {n : Nat} {x : Ex} {Ax : Option Addr} {cx : Nat} {w : World} (hx : IsEx n (Lt w.heap.size) w (exV x (.slice Ax x.l.length cx)) x) :
    SlE (n + 1) (Lt (w.alloc (.cells (exC6 x Ax cx) 28)).heap.size) (w.alloc (.cells (exC6 x Ax cx) 28)) (.slice (some ⟨w.heap.size, 0, none⟩) 1 1) [x] := by
  have hb := bone w (.cells (exC6 x Ax cx) 28)
  have hx1 := hx.now hb
  refine Sl.ofBlk (R := RExN (n + 1)) (size := 6) (xs := [x]) (cs := (exC6 x Ax cx).toList) (Blk.new w 28 _) (by unfold maxLen; show 1 ≤ _; decide) (fun i y hy => ?_)
  match i, hy with
  | 0, hy =>
    injection hy with hy; subst hy
    exact ⟨(exC6 x Ax cx).toList, rfl, fun j u hu => by simpa using hu, isEx_cells hx1⟩
  | i + 1, hy => simp at hy
end Go.Proofs.YtijmnenojbfdnaaGreatDoor

namespace Go.Proofs.YtijmnenojbfdnaaGreatDoor
open Go.RowKit
theorem conv_nil {P : Program} (w : World) (src dst e : TypeId) (c : Nat) (hs : P.underlying src = some (.slice e)) (he : P.underlying e = some (.int .u8)) (hd : P.underlying dst = some .string) :
    (convert src dst (.slice none 0 c)).run P w = .ok (.string ⟨#[]⟩) w := by
  rw [run_convert_bytes_string w src dst e none 0 c hs he hd]
  simp [Conv.bytesToString]
  rfl
def cellC (c : UInt8) : List Value := [.int .u8 (c.toNat : Int)]
theorem cellC_one (c : UInt8) : ∀ u ∈ cellC c, u.oneCell' = true := by intro u hu; simp [cellC] at hu; subst hu; rfl
def OwnC (w : World) (base : Nat) (v : Value) (l : List UInt8) : Prop := OwnW 1 cellC w base 5 v l
theorem appBytes : AppInfo Tryz.prog 90 5 1 := AppInfo.mk' (z := .int .u8 0) (bytes := 1) Tryz.underlying90 (by kernel_rfl) (by decide) rfl (by decide)
theorem flatC (l : List UInt8) : flat cellC l = l.map fun c => .int .u8 (c.toNat : Int) := by
  unfold flat cellC
  induction l with
  | nil => rfl
  | cons a l ih => rw [List.flatMap_cons, ih]; rfl
theorem OwnC.now {w w' : World} {base : Nat} {v : Value} {l : List UInt8} (h : OwnC w base v l) (hb : Below w.heap.size w w') : OwnC w' base v l := OwnW.now h hb
theorem OwnC.conv {w : World} {base : Nat} {v : Value} {l : List UInt8} (h : OwnC w base v l) : (convert 90 9 v).run Tryz.prog w = .ok (.string ⟨l.toArray⟩) w := by
  rcases Nat.eq_zero_or_pos l.length with h0 | h0
  · have : l = [] := List.eq_nil_of_length_eq_zero h0
    subst this
    rcases h.2 with ⟨rfl, _⟩ | ⟨g, cap, cur, rfl, _⟩
    · exact conv_nil w _ _ _ 0 Tryz.underlying90 Tryz.underlying5 Tryz.underlying9
    · exact run_convert_bytes_back w _ _ _ ⟨g, 0, none⟩ cap [] Tryz.underlying90 Tryz.underlying5 Tryz.underlying9 (fun j hj => absurd hj (by simp))
  · obtain ⟨g, cap, rfl, _, _, _⟩ := OwnW.form h h0
    refine run_convert_bytes_back w _ _ _ ⟨g, 0, none⟩ cap l Tryz.underlying90 Tryz.underlying5 Tryz.underlying9 (fun j hj => ?_)
    have hc := World.ownsRow.cellAt h j (by omega)
    have e : ((⟨g, 0, none⟩ : Addr).add j) = ⟨g, j, none⟩ := by unfold Addr.add; by_cases hj : j = 0 <;> simp [hj]
    rw [e, hc, flatC]
    simp [List.getElem?_eq_getElem hj]
theorem OwnC.one (w : World) (c : UInt8) : OwnC (w.alloc (.cells #[.int .u8 (c.toNat : Int)] 5)) w.heap.size (.slice (some ⟨w.heap.size, 0, none⟩) 1 1) [c] := by
  have := World.ownsRow_lit (base := w.heap.size) (e := 5) (size := 1) w #[.int .u8 (c.toNat : Int)] 1 (Nat.le_refl _) (by unfold maxLen; omega) rfl
  exact this
end Go.Proofs.YtijmnenojbfdnaaGreatDoor

namespace Go.Proofs.YtijmnenojbfdnaaGreatDoor
open Go.RowKit
def Hat (w : World) (v v' : Value) : Prop := ∀ g, v'.ownBlock = some g → v.ownBlock = some g ∨ w.heap.size ≤ g
structure Adds (base : Nat) (w : World) (v : Value) (l : List UInt8) (w' : World) (v' : Value) : Prop where
  own : OwnC w' base v' l
  grown : w.grownBy w' v.ownBlock
  hat : Hat w v v'
theorem Adds.trans {base : Nat} {w w1 w2 : World} {v v1 v2 : Value} {l1 l2 : List UInt8} (h : Adds base w v l1 w1 v1) (k : Adds base w1 v1 l2 w2 v2) : Adds base w v l2 w2 v2 :=
  ⟨k.own, ⟨k.grown.os.trans h.grown.os, k.grown.tape.trans h.grown.tape, k.grown.output.trans h.grown.output, Nat.le_trans h.grown.size k.grown.size, fun i hi hne => by
    have h1 := h.grown.block i hi hne
    refine (k.grown.block i (Nat.lt_of_lt_of_le hi h.grown.size) (fun e => ?_)).trans h1
    rcases h.hat i e.symm with e2 | e2
    · exact hne e2.symm
    · omega⟩, fun g hg => by
    rcases k.hat g hg with e | e
    · exact h.hat g e
    · exact .inr (Nat.le_trans h.grown.size e)⟩
theorem Adds.pre {base : Nat} {w w1 w2 : World} {v v2 : Value} {l2 : List UInt8} (hb : Below w.heap.size w w1) (k : Adds base w1 v l2 w2 v2) : Adds base w v l2 w2 v2 :=
  ⟨k.own, ⟨k.grown.os.trans hb.os, k.grown.tape.trans hb.tape, k.grown.output.trans hb.output, Nat.le_trans hb.size k.grown.size, fun i hi hne => (k.grown.block i (Nat.lt_of_lt_of_le hi hb.size) hne).trans (hb.block i hi)⟩, fun g hg => by
    rcases k.hat g hg with e | e
    · exact .inl e
    · exact .inr (Nat.le_trans hb.size e)⟩
theorem Adds.post {base : Nat} {w w1 w2 : World} {v v1 : Value} {l : List UInt8} (h : Adds base w v l w1 v1) (hb : Below w1.heap.size w1 w2) : Adds base w v l w2 v1 :=
  ⟨h.own.now hb, ⟨hb.os.trans h.grown.os, hb.tape.trans h.grown.tape, hb.output.trans h.grown.output, Nat.le_trans h.grown.size hb.size, fun i hi hne => (hb.block i (Nat.lt_of_lt_of_le hi h.grown.size)).trans (h.grown.block i hi hne)⟩, h.hat⟩
theorem Adds.below {base : Nat} {w w' : World} {v v' : Value} {l l0 : List UInt8} (h : Adds base w v l w' v') (h0 : OwnC w base v l0) (hb : base ≤ w.heap.size) : Below base w w' :=
  below_of_grown h.grown hb fun g hg => (World.ownsRow.lt h0 g hg).1
theorem Adds.refl {base : Nat} {w : World} {v : Value} {l : List UInt8} (h : OwnC w base v l) : Adds base w v l w v := ⟨h, World.grownBy.refl _ _, fun _ hg => .inl hg⟩
theorem Adds.keep {base : Nat} {w w' : World} {v v' : Value} {l l0 : List UInt8} {g t : Nat} {cs : Array Value} (h : Adds base w v l w' v') (h0 : OwnC w base v l0) (hB : Blk w g t cs) (ht : t ≠ 5) : Blk w' g t cs := by
  refine hB.grown h.grown fun e => ?_
  obtain ⟨c, fz, hc⟩ := Lib.ownsRow_kind h0 g e.symm
  have := hB.symm.trans hc
  injection this with this
  injection this with _ e2 _
  exact ht e2
theorem strC (s : ByteArray) : Lib.strCells s = flat cellC s.data.toList := by rw [flatC]; rfl
theorem byteInfo' : (Tryz.prog.info? 5).map (fun i => (i.zero, i.size, i.bytes)) = some (some (.int .u8 0), 1, 1) := by kernel_rfl
theorem run_appendStr (w : World) (base : Nat) (ty : TypeId) (v : Value) (l : List UInt8) (hown : OwnC w base v l) (s : ByteArray) (hn : l.length + s.size ≤ 1000000000) (hbase : base ≤ w.heap.size) :
    ∃ v' w', (Builtin.append_ #[90, 9] ty #[v, .string s]).run Tryz.prog w = .ok v' w' ∧ Adds base w v (l ++ s.data.toList) w' v' := by
  obtain ⟨i, hi, hz0, hz1, hz2⟩ := info_parts byteInfo'
  have hss : s.data.toList.length = s.size := Array.length_toList
  obtain ⟨v', w', hr, h2, h3, _⟩ := Lib.run_append_own_string (P := Tryz.prog) w base 90 9 ty 5 i Tryz.underlying90 Tryz.underlying9 hi hz0 hz1 hz2 v l.length (flat cellC l) hown s (by unfold maxLen; omega) (by omega) hbase
  refine ⟨v', w', hr, ?_, h3, ?_⟩
  · unfold OwnC OwnW
    rw [flat_append, ← strC, List.length_append, hss]
    exact h2
  · intro g hg
    rcases hown.2 with ⟨rfl, hl0⟩ | ⟨g', cap, cur, rfl, hbg, hgc, hnc, hcm, hcs, htake⟩
    · by_cases hm : s.size = 0
      · rcases h2.2 with ⟨rfl, _⟩ | ⟨g2, c2, cur2, rfl, _, _, _⟩
        · cases hg
        · exfalso
          have hl : l = [] := List.eq_nil_of_length_eq_zero hl0
          subst hl
          have hf := Lib.run_firstCells_string (P := Tryz.prog) w 1 s
          rw [hm] at hf
          simp [Builtin.append_, run_underlying Tryz.underlying90, run_underlying Tryz.underlying9, sizeOf, typeInfo, hi, hz1, Builtin.lenOf, hm, hf] at hr
      · have hr2 := run_append_nil_string (P := Tryz.prog) w 90 9 ty 5 i (.int .u8 0) Tryz.underlying90 Tryz.underlying9 hi hz0 s (by omega) (by omega) (by rw [hz2]; omega)
        have e := hr.symm.trans hr2
        injection e with e1 e2
        rw [e1] at hg
        have hg : some w.heap.size = some g := hg
        injection hg with hg
        exact .inr (by omega)
    · by_cases hroom : l.length + s.size ≤ cap
      · have hcs' : cur.size = cap := by simpa using hcs
        have hr2 := Lib.run_append_room_string (P := Tryz.prog) w 90 9 ty 5 i Tryz.underlying90 Tryz.underlying9 hi hz1 g' l.length cap cur hgc s hroom (by omega)
        have e := hr.symm.trans hr2
        injection e with e1 e2
        rw [e1] at hg
        exact .inl hg
      · have hxl : (flat cellC l).length = l.length := by rw [flatC, List.length_map]
        have hr2 := Lib.run_append_grow_string (P := Tryz.prog) w 90 9 ty 5 i (.int .u8 0) Tryz.underlying90 Tryz.underlying9 hi hz0 ⟨g', 0, none⟩ l.length cap (flat cellC l) (by rw [hz1]; omega) (fun j u hj => World.ownsRow.cells hown (g := g') rfl j u hj) s (by omega) (by omega) (by rw [hz2]; exact growslice_fits (by omega) (by omega))
        have e := hr.symm.trans hr2
        injection e with e1 e2
        rw [e1] at hg
        have hg : some w.heap.size = some g := hg
        injection hg with hg
        exact .inr (by omega)
section
variable {base : Nat} {w : World} {v : Value} {l : List UInt8} {o : Oper} {a : Act} {K : Act → World → Prop} {Q : Exit → Act → World → Prop}
theorem wp_appendStr (sl x : Operand) (ho : o.op = .call { callee := .builtin .append, args := #[sl, x], argTypes := #[90, 9] }) (hs : a.eval sl = v) (hown : OwnC w base v l) (s : ByteArray) (hx : a.eval x = .string s) (hn : l.length + s.size ≤ 1000000000) (hbase : base ≤ w.heap.size)
    (h : ∀ v' w', Adds base w v (l ++ s.data.toList) w' v' → K (a.put o.dst v') w') : o.wp Tryz.prog a w K Q := by
  obtain ⟨v', w', hr, h2⟩ := run_appendStr w base o.type v l hown s hn hbase
  unfold Oper.wp execOp
  simp only [ho, resolve, invoke, builtin, Sem.run_bind, Sem.run_pure, Result.andThen_ok, List.map_toArray, List.map_cons, List.map_nil, hs, hx, hr]
  exact h v' w' h2
theorem wpList_appendStr {ops : Array Oper} {rest : List Oper} (hgd : o.guard = none) (sl x : Operand) (ho : o.op = .call { callee := .builtin .append, args := #[sl, x], argTypes := #[90, 9] }) (hs : a.eval sl = v) (hown : OwnC w base v l) (s : ByteArray) (hx : a.eval x = .string s) (hn : l.length + s.size ≤ 1000000000) (hbase : base ≤ w.heap.size)
    (h : ∀ v' w', Adds base w v (l ++ s.data.toList) w' v' → wpList Tryz.prog ops Q rest (a.put o.dst v') w') : wpList Tryz.prog ops Q (o :: rest) a w :=
  wpList_plain hgd fun _ hK => wp_appendStr sl x ho hs hown s hx hn hbase fun v' w' h2 => hK _ _ (h v' w' h2)
theorem wpList_pushC {ops : Array Oper} {rest : List Oper} (hgd : o.guard = none) (sl x : Operand) (ho : o.op = .call { callee := .builtin .append, args := #[sl, x], argTypes := #[90, 90] }) (c : UInt8) (z : Int) (hz : z = (c.toNat : Int)) (hs : a.eval sl = v) (hown : OwnC w base v l) (hx : a.eval x = .slice (some ⟨w.heap.size, 0, none⟩) 1 1) (hn : l.length < 10000000) (hbase : base ≤ w.heap.size)
    (h : ∀ v' w', Adds base w v (l ++ [c]) w' v' → wpList Tryz.prog ops Q rest (a.put o.dst v') w') : wpList Tryz.prog ops Q (o :: rest) a (w.alloc (.cells #[.int .u8 z] 5)) := by
  subst hz
  refine wpList_pushW (fc := cellC) appBytes hgd sl x ho w c l rfl (cellC_one c) v hs hown hx hn hbase fun v' w' h2 h3 h4 => h v' w' ⟨h2, h3, fun g hg => ?_⟩
  rcases h4 with e | e
  · exact .inl (e ▸ hg)
  · rw [e] at hg; injection hg with hg; exact .inr (by omega)
theorem wp_appendC (sl x : Operand) (ho : o.op = .call { callee := .builtin .append, args := #[sl, x], argTypes := #[90, 90] }) (hs : a.eval sl = v) (hown : OwnC w base v l) {base' : Nat} {u : Value} {m : List UInt8} (hx : a.eval x = u) (hu : OwnC w base' u m) (hn : l.length + m.length < 10000000) (hbase : base ≤ w.heap.size)
    (h : ∀ v' w', Adds base w v (l ++ m) w' v' → K (a.put o.dst v') w') : o.wp Tryz.prog a w K Q := by
  refine wp_appendAllW (fc := cellC) (size := 1) (R := fun _ _ c cs => cs = cellC c) (D := Lt w.heap.size) appBytes sl x ho w (fun _ => rfl) l v hs hown u m hx (OwnW.sl hu (fun _ => rfl) (fun _ _ _ _ => rfl)) (fun _ _ h => h) cellC_one hn hbase fun v' w' h2 h3 h4 => h v' w' ⟨h2, h3, fun g hg => ?_⟩
  rcases h4 with e | e
  · exact .inl (e ▸ hg)
  · rw [e] at hg; injection hg with hg; exact .inr (by omega)
end
end Go.Proofs.YtijmnenojbfdnaaGreatDoor

namespace Go.Proofs.YtijmnenojbfdnaaGreatDoor
open Go.RowKit
theorem encode_digit {d : Nat} (h : d < 128) : Utf8.encode (d : Int) = ⟨#[UInt8.ofNat d]⟩ := by
  have hv : Utf8.valid (d : Int) = true := by
    unfold Utf8.valid
    simp; omega
  unfold Utf8.encode
  simp only [hv, if_true]
  rw [if_pos (by omega)]
  simp
def decS (n : Int) : ByteArray := ⟨(Lib.itoa n).toArray⟩
theorem dec_small {n : Int} (h1 : 0 ≤ n) (h2 : n ≤ 9) : Utf8.encode (48 + n) = decS n := by
  obtain ⟨u, rfl⟩ := Int.eq_ofNat_of_zero_le h1
  have := encode_digit (d := 48 + u) (by omega)
  rw [show (48 : Int) + (u : Int) = ((48 + u : Nat) : Int) by omega, this]
  unfold decS
  rw [Lib.itoa_nonneg, Lib.decDigits_one (by omega)]
theorem dec_smallneg {n : Int} (h1 : n < 0) (h2 : -9 ≤ n) : (⟨#[45]⟩ : ByteArray) ++ Utf8.encode (48 - n) = decS n := by
  obtain ⟨u, rfl⟩ : ∃ u : Nat, n = -(u : Int) := ⟨n.natAbs, by omega⟩
  have := encode_digit (d := 48 + u) (by omega)
  rw [show (48 : Int) - -(u : Int) = ((48 + u : Nat) : Int) by omega, this]
  unfold decS
  rw [Lib.itoa_neg u (by omega), Lib.decDigits_one (by omega)]
  rfl
theorem dec_step (u : Nat) (h : ¬ u < 10) : Lib.decDigits u = Lib.decDigits (u / 10) ++ [UInt8.ofNat (48 + u % 10)] := by rw [Lib.decDigits, dif_neg h]
theorem app_bytes (a b : List UInt8) : (⟨a.toArray⟩ : ByteArray) ++ ⟨b.toArray⟩ = ⟨(a ++ b).toArray⟩ := by
  have : ((⟨a.toArray⟩ : ByteArray) ++ ⟨b.toArray⟩).data = (a ++ b).toArray := by
    rw [ByteArray.data_append]; simp
  cases h : (⟨a.toArray⟩ : ByteArray) ++ ⟨b.toArray⟩
  rw [h] at this
  simp only at this
  rw [this]
theorem dec_big {n : Int} (h : 9 < n) : decS (Int.tdiv n 10) ++ Utf8.encode (48 + Int.tmod n 10) = decS n := by
  obtain ⟨u, rfl⟩ := Int.eq_ofNat_of_zero_le (show 0 ≤ n by omega)
  have e1 : Int.tdiv (u : Int) 10 = ((u / 10 : Nat) : Int) := by rw [Int.tdiv_eq_ediv_of_nonneg (by omega)]; omega
  have e2 : (48 : Int) + Int.tmod (u : Int) 10 = ((48 + u % 10 : Nat) : Int) := by rw [Int.tmod_eq_emod_of_nonneg (by omega)]; omega
  rw [e1, e2, encode_digit (by omega)]
  unfold decS
  rw [Lib.itoa_nonneg, Lib.itoa_nonneg, dec_step u (by omega)]
  exact app_bytes _ [_]
theorem dec_bigneg {n : Int} (h : n < -9) : decS (Int.tdiv n 10) ++ Utf8.encode (48 - Int.tmod n 10) = decS n := by
  obtain ⟨u, rfl⟩ : ∃ u : Nat, n = -(u : Int) := ⟨n.natAbs, by omega⟩
  have e1 : Int.tdiv (-(u : Int)) 10 = -((u / 10 : Nat) : Int) := by rw [Int.neg_tdiv, Int.tdiv_eq_ediv_of_nonneg (by omega)]; omega
  have e2 : (48 : Int) - Int.tmod (-(u : Int)) 10 = ((48 + u % 10 : Nat) : Int) := by rw [Int.neg_tmod, Int.tmod_eq_emod_of_nonneg (by omega)]; omega
  rw [e1, e2, encode_digit (by omega)]
  unfold decS
  rw [Lib.itoa_neg _ (by omega), Lib.itoa_neg u (by omega), dec_step u (by omega)]
  exact app_bytes (45 :: _) [_]
theorem ret_str {a b : ByteArray} (h : a = b) : Ending.returned (.string a) = .returned (.string b) := by rw [h]
theorem dec_size {n : Int} (h : Fit n) : (decS n).size ≤ 20 := by
  unfold Fit at h
  unfold decS ByteArray.size
  simp only [List.size_toArray]
  rcases Int.lt_or_le n 0 with h0 | h0
  · obtain ⟨u, rfl⟩ : ∃ u : Nat, n = -(u : Int) := ⟨n.natAbs, by omega⟩
    rw [Lib.itoa_neg u (by omega), List.length_cons, Lib.decDigits_length]
    have := nDigits_le (u := u) (k := 19) (by omega) (by omega)
    omega
  · obtain ⟨u, rfl⟩ := Int.eq_ofNat_of_zero_le h0
    rw [Lib.itoa_nonneg, Lib.decDigits_length]
    have := nDigits_le (u := u) (k := 19) (by omega) (by omega)
    omega
theorem enc_size {d : Int} (h0 : 0 ≤ d) (h : d < 128) : (Utf8.encode d).size = 1 := by
  obtain ⟨u, rfl⟩ := Int.eq_ofNat_of_zero_le h0
  rw [encode_digit (by omega)]; rfl
set_option maxHeartbeats 1000000 in
theorem decimal_at : ∀ (k : Nat) (n : Int) (w : World), n.natAbs ≤ k → Fit n → Calls Tryz.prog 149 #[.int .i64 n] w fun e w' => e = .returned (.string (decS n)) ∧ w = w' := by
  intro k
  induction k using Nat.strongRecOn with
  | _ k ih =>
    intro n w hk hf
    unfold Fit at hf
    obtain ⟨f1, f2⟩ := hf
    by_cases h0 : n < 0
    · by_cases h9 : n < -9
      · have hq : Int.tdiv n 10 = -((n.natAbs / 10 : Nat) : Int) := by
          rw [show n = -((n.natAbs : Nat) : Int) by omega, Int.neg_tdiv, Int.tdiv_eq_ediv_of_nonneg (by omega)]; omega
        have hr : Int.tmod n 10 = -((n.natAbs % 10 : Nat) : Int) := by
          rw [show n = -((n.natAbs : Nat) : Int) by omega, Int.neg_tmod, Int.tmod_eq_emod_of_nonneg (by omega)]; omega
        have HC := Lib.hid (fun W => ih (Int.tdiv n 10).natAbs (by rw [hq]; omega) (Int.tdiv n 10) W (Nat.le_refl _) (by rw [hq]; unfold Fit; omega))
        have HE := Lib.hid (dec_bigneg h9)
        have z1 := dec_size (n := Int.tdiv n 10) (by rw [hq]; unfold Fit; omega)
        have z2 := enc_size (d := 48 - Int.tmod n 10) (by rw [hr]; omega) (by rw [hr]; omega)
        have r1 : -9 ≤ Int.tmod n 10 := by rw [hr]; omega
        have r2 : Int.tmod n 10 ≤ 0 := by rw [hr]; omega
        have q1 : -922337203685477580 ≤ Int.tdiv n 10 := by rw [hq]; omega
        have q2 : Int.tdiv n 10 ≤ 0 := by rw [hq]; omega
        have w1 : IntKind.i64.wrap (Int.tdiv n 10) = Int.tdiv n 10 := IntWalk.i64_in _ (by omega)
        have w2 : IntKind.i64.wrap (Int.tmod n 10) = Int.tmod n 10 := IntWalk.i64_in _ (by omega)
        have w3 : IntKind.i64.wrap (48 - Int.tmod n 10) = 48 - Int.tmod n 10 := IntWalk.i64_in _ (by omega)
        clear ih hk hq hr
        go_enter Tryz.func149, Tryz.ntmps149
        go_wp2_with fail
        refine (HC.out _).mono ?_
        rintro e w' ⟨rfl, rfl⟩
        go_wp2_with fail
        go_ret
        exact ⟨ret_str HE.out, rfl⟩
      · have HE := Lib.hid (dec_smallneg h0 (by omega))
        have z1 : (⟨#[45]⟩ : ByteArray).size = 1 := rfl
        have z2 := enc_size (d := 48 - n) (by omega) (by omega)
        clear ih hk
        go_enter Tryz.func149, Tryz.ntmps149
        go_wp2_with fail
        go_ret
        exact ⟨ret_str HE.out, rfl⟩
    · by_cases h9 : 9 < n
      · have hq : Int.tdiv n 10 = ((n.natAbs / 10 : Nat) : Int) := by
          rw [Int.tdiv_eq_ediv_of_nonneg (by omega)]; omega
        have hr : Int.tmod n 10 = ((n.natAbs % 10 : Nat) : Int) := by
          rw [Int.tmod_eq_emod_of_nonneg (by omega)]; omega
        have HC := Lib.hid (fun W => ih (Int.tdiv n 10).natAbs (by rw [hq]; omega) (Int.tdiv n 10) W (Nat.le_refl _) (by rw [hq]; unfold Fit; omega))
        have em : Int.tmod n 10 = n % 10 := Int.tmod_eq_emod_of_nonneg (by omega)
        have HE0 := dec_big h9
        rw [em] at HE0 hr
        have HE := Lib.hid HE0
        have z1 := dec_size (n := Int.tdiv n 10) (by rw [hq]; unfold Fit; omega)
        have z2 := enc_size (d := 48 + n % 10) (by rw [hr]; omega) (by rw [hr]; omega)
        have r1 : 0 ≤ n % 10 := by rw [hr]; omega
        have r2 : n % 10 ≤ 9 := by rw [hr]; omega
        have q1 : 0 ≤ Int.tdiv n 10 := by rw [hq]; omega
        have q2 : Int.tdiv n 10 ≤ 922337203685477580 := by rw [hq]; omega
        have w1 : IntKind.i64.wrap (Int.tdiv n 10) = Int.tdiv n 10 := IntWalk.i64_in _ (by omega)
        have w2 : IntKind.i64.wrap (n % 10) = n % 10 := IntWalk.i64_in _ (by omega)
        have w3 : IntKind.i64.wrap (48 + n % 10) = 48 + n % 10 := IntWalk.i64_in _ (by omega)
        clear ih hk hq hr em HE0
        go_enter Tryz.func149, Tryz.ntmps149
        go_wp2_with fail
        refine (HC.out _).mono ?_
        rintro e w' ⟨rfl, rfl⟩
        go_wp2_with fail
        go_ret
        exact ⟨ret_str HE.out, rfl⟩
      · have HE := Lib.hid (dec_small (n := n) (by omega) (by omega))
        clear ih hk
        go_enter Tryz.func149, Tryz.ntmps149
        go_wp2_with fail
        go_ret
        exact ⟨ret_str HE.out, rfl⟩
theorem decimal_any (n : Int) (w : World) (hf : Fit n) : Calls Tryz.prog 149 #[.int .i64 n] w fun e w' => e = .returned (.string (decS n)) ∧ w = w' := decimal_at _ n w (Nat.le_refl _) hf
end Go.Proofs.YtijmnenojbfdnaaGreatDoor

namespace Go.Proofs.YtijmnenojbfdnaaGreatDoor
open Go.RowKit
set_option maxHeartbeats 1000000 in
theorem literal_ref (s : ByteArray) (w : World) (hs : s.size ≤ 1000000) : Calls Tryz.prog 185 #[.string s] w fun e w' => e = .returned (.string (quoteS s)) ∧ Below w.heap.size w w' := by
  have hO0 := OwnC.one w 34
  have hb0 := bone w (.cells #[.int .u8 ((34 : UInt8).toNat : Int)] 5)
  have e34 : ((34 : UInt8).toNat : Int) = 34 := rfl
  rw [e34] at hO0 hb0
  go_enter Tryz.func185, Tryz.ntmps185
  go_wp2_with fail
  go_loopw [3, 4] (fun bv i wr => ∃ k : Nat, k ≤ s.size ∧ i = .int .i64 k ∧ OwnC wr w.heap.size bv (34 :: escB (s.data.toList.take k)) ∧ Below w.heap.size w wr) (fun _ i _ => s.size - (intOf i).toNat)
  case atStart => exact ⟨0, Nat.zero_le _, rfl, hO0, hb0⟩
  case round =>
    obtain ⟨k, hk, rfl, hOr, hbr⟩ := hrel
    have hsz := hbr.size
    clear hO0 hb0 e34
    by_cases hlt : k < s.size
    · have HN := Lib.hid (escB_snoc (byteOf hlt))
      have hle : (34 :: escB (s.data.toList.take k)).length < 5000000 := by
        have := escB_len (s.data.toList.take k)
        rw [List.length_take] at this
        simp only [List.length_cons]
        omega
      have HU : Hid (∀ c : UInt8, escC c = if c.toNat = 34 ∨ c.toNat = 92 then [92, c] else [c]) := fun _ => rfl
      generalize hL : 34 :: escB (s.data.toList.take k) = L at *
      have HL := Lib.hid hL
      clear hL
      have i1 : (0 : Int) ≤ (k : Int) := by omega
      have i2 : (k : Int) < (s.size : Int) := by omega
      by_cases hq : (s[k].toNat : Int) = 34 ∨ (s[k].toNat : Int) = 92
      · have HX : Hid (34 :: escB (s.data.toList.take (k + 1)) = L ++ [92] ++ [s[k]]) := by
          show _ = _
          rw [HN.out, HU.out, if_pos (by omega), ← HL.out]; simp
        have HG : ∀ (Q : Prop), (((s[k].toNat : Int) == 34) = true → Q) → (((s[k].toNat : Int) == 34) = false → ((s[k].toNat : Int) == 92) = true → Q) → Q := by
          intro Q h1 h2
          by_cases e : (s[k].toNat : Int) = 34
          · exact h1 (beq_iff_eq.2 e)
          · exact h2 (beq_eq_false_iff_ne.2 e) (beq_iff_eq.2 (by omega))
        clear hq
        refine HG _ (fun h1 => ?_) (fun h1 h2 => ?_)
        all_goals
          clear HG
          have hb1 := bone wr (.cells #[.int .u8 92] 5)
          go_wp2_with (at_builtin; first | refine wpList_pushW (fc := cellC) appBytes rfl (.tmp 22) (.tmp 23) rfl wr (92 : UInt8) L rfl (cellC_one _) _ rfl hOr rfl (by omega) hsz ?_)
          intro v2 w2 hO2 hg2 ha2
          have hbg2 : Below w.heap.size wr w2 := below_of_grown hg2 hsz (fun g hg => (World.ownsRow.lt hOr g hg).1)
          have hsz2 := Nat.le_trans hsz hbg2.size
          clear hb1
          go_wp2_with (at_builtin; first | refine wpList_pushW (fc := cellC) appBytes rfl (.tmp 25) (.tmp 29) rfl w2 s[k] (L ++ [92]) rfl (cellC_one _) _ rfl hO2 rfl (by simp; omega) hsz2 ?_)
          intro v3 w3 hO3 hg3 ha3
          have hbg3 : Below w.heap.size w2 w3 := below_of_grown hg3 hsz2 (fun g hg => (World.ownsRow.lt hO2 g hg).1)
          go_wp2_with fail
          go_roundw
          case rel => exact ⟨k + 1, by omega, by go_num, by rw [HX.out, List.append_assoc]; exact hO3, (hbr.trans hbg2).trans hbg3⟩
          case measure => simp [intOf]; omega
      · have HX : Hid (34 :: escB (s.data.toList.take (k + 1)) = L ++ [s[k]]) := by
          show _ = _
          rw [HN.out, HU.out, if_neg (by omega), ← HL.out]; simp
        have h1 : ((s[k].toNat : Int) == 34) = false := beq_eq_false_iff_ne.2 (fun h => hq (Or.inl h))
        have h2 : ((s[k].toNat : Int) == 92) = false := beq_eq_false_iff_ne.2 (fun h => hq (Or.inr h))
        clear hq
        go_wp2_with (at_builtin; first | refine wpList_pushW (fc := cellC) appBytes rfl (.tmp 25) (.tmp 29) rfl wr s[k] L rfl (cellC_one _) _ rfl hOr rfl (by omega) hsz ?_)
        intro v3 w3 hO3 hg3 ha3
        have hbg3 : Below w.heap.size wr w3 := below_of_grown hg3 hsz (fun g hg => (World.ownsRow.lt hOr g hg).1)
        go_wp2_with fail
        go_roundw
        case rel => exact ⟨k + 1, by omega, by go_num, by rw [HX.out]; exact hO3, hbr.trans hbg3⟩
        case measure => simp [intOf]; omega
    · obtain rfl : k = s.size := by omega
      have HT : Hid (34 :: escB (s.data.toList.take s.size) ++ [34] = quoteL s.data.toList) := by
        show _ = _
        unfold quoteL
        rw [List.take_of_length_le (by simp)]; rfl
      have hle : (34 :: escB (s.data.toList.take s.size)).length < 5000000 := by
        have := escB_len (s.data.toList.take s.size)
        rw [List.length_take] at this
        simp only [List.length_cons]
        omega
      generalize 34 :: escB (s.data.toList.take s.size) = L at *
      go_wp2_with (at_builtin; first | refine wpList_pushW (fc := cellC) appBytes rfl (.tmp 31) (.tmp 32) rfl wr (34 : UInt8) L rfl (cellC_one _) _ rfl hOr rfl (by omega) hsz ?_)
      intro v3 w3 hO3 hg3 ha3
      have hbg3 : Below w.heap.size wr w3 := below_of_grown hg3 hsz (fun g hg => (World.ownsRow.lt hOr g hg).1)
      have hcv := OwnC.conv hO3
      go_wp2_with fail
      go_ret
      refine ⟨?_, hbr.trans hbg3⟩
      rw [HT.out]; rfl
set_option maxHeartbeats 400000 in
theorem quote_ref (s : ByteArray) (w : World) (hs : s.size ≤ maxLen) : Calls Tryz.prog 150 #[.string s] w fun e w' => e = .returned (.tuple #[.string (quoteE s).1, .int .i64 (quoteE s).2]) ∧ Below w.heap.size w w' := by
  have hs0 := hs
  unfold maxLen at hs
  go_enter Tryz.func150, Tryz.ntmps150
  by_cases h1 : 16384 < s.size
  · have HE : Hid (quoteE s = (⟨#[]⟩, 5)) := if_pos h1
    go_wp2_with fail
    go_ret2
    exact ⟨ret_si (by rw [HE.out]), Below.refl _ _⟩
  have HE : Hid (quoteE s = if plainS s then (quoteS s, 0) else (⟨#[]⟩, 3)) := if_neg h1
  go_wp2_with fail
  refine (printable_ref s _ hs0).mono ?_
  rintro e w1 ⟨rfl, rfl⟩
  generalize plainS s = q at *
  cases q
  · go_wp2_with fail
    go_ret2
    exact ⟨ret_si (by rw [HE.out]; rfl), Below.refl _ _⟩
  · go_wp2_with fail
    refine (literal_ref s _ (by omega)).mono ?_
    rintro e w2 ⟨rfl, hb2⟩
    go_wp2_with fail
    go_ret2
    exact ⟨ret_si (by rw [HE.out]; rfl), hb2⟩
set_option maxHeartbeats 1000000 in
theorem textV_ref (v : Val) (w : World) (hf : FitV v) (hv : validV v = true) :
    Calls Tryz.prog 101 #[valV v] w fun e w' => e = .returned (.string (textV v)) ∧ Below w.heap.size w w' := by
  have hb := bone w (.cells #[.int .i64 v.kind, .int .i64 v.n, .string v.s] 25)
  have hB := Blk.new w 25 #[.int .i64 v.kind, .int .i64 v.n, .string v.s]
  have HV := Lib.hid hv
  clear hv
  obtain ⟨y0, y1, y2⟩ := hB.c3
  unfold valV
  obtain ⟨k, n, s⟩ := v
  obtain ⟨g1, g2, g3⟩ := hf
  unfold Fit at g1 g2
  dsimp only at *
  go_enter Tryz.func101, Tryz.ntmps101
  by_cases k1 : k = 1
  · subst k1
    rcases (valid1 HV.out rfl).1 with hn | hn
    · dsimp only at hn
      subst hn
      have HT : Hid (textV ⟨1, 0, s⟩ = falseS) := rfl
      go_wp2_with fail
      go_ret
      exact ⟨ret_str HT.out.symm, hb⟩
    · dsimp only at hn
      subst hn
      have HT : Hid (textV ⟨1, 1, s⟩ = trueS) := rfl
      go_wp2_with fail
      go_ret
      exact ⟨ret_str HT.out.symm, hb⟩
  by_cases k2 : k = 2
  · subst k2
    have HT : Hid (textV ⟨2, n, s⟩ = decS n) := rfl
    go_wp2_with fail
    refine (decimal_any n _ g2).mono ?_
    rintro e w3 ⟨rfl, rfl⟩
    go_wp2_with fail
    go_ret
    exact ⟨ret_str HT.out.symm, hb⟩
  · obtain ⟨k3, n0, ht⟩ := valid3 HV.out k1 k2
    dsimp only at k3 n0 ht
    subst k3 n0
    have HT : Hid (textV ⟨3, 0, s⟩ = quoteS s) := rfl
    have HU := Lib.hid (quote_of_text ht)
    clear k1 k2
    go_wp2_with fail
    refine (quote_ref s _ g3).mono ?_
    rintro e w3 ⟨rfl, hb3⟩
    rw [HU.out]
    go_wp2_with fail
    go_ret
    exact ⟨ret_str HT.out.symm, bthen hb hb3⟩
end Go.Proofs.YtijmnenojbfdnaaGreatDoor

namespace Go.Proofs.YtijmnenojbfdnaaGreatDoor
open Go.RowKit
def RetAdds (base : Nat) (w : World) (v : Value) (l : List UInt8) (e : Ending) (w' : World) : Prop := ∃ v', e = .returned v' ∧ Adds base w v l w' v'
def WriteR (n : Nat) : Prop := ∀ (u : Value) (x : Ex) (asks : Nat) (w : World) (base : Nat) (v : Value) (l : List UInt8), asks ≤ 9 → okX x = true → OwnC w base v l → base ≤ w.heap.size → IsEx n (Lt base) w u x →
  l.length + (txB (n + 1) x asks).length ≤ 1000000 →
  Calls Tryz.prog 58 #[v, u, .int .i64 (asks : Int)] w (RetAdds base w v (l ++ txB (n + 1) x asks))
theorem level_ref (k : Nat) (w : World) (h0 : 1 ≤ k) (h : k ≤ 13) :
    Calls Tryz.prog 100 #[.int .i64 (k : Int)] w fun e w' => e = .returned (.int .i64 (levB k : Int)) ∧ w = w' := by
  match k, h0, h with
  | 1, _, _ | 2, _, _ | 3, _, _ | 4, _, _ | 5, _, _ | 6, _, _ | 7, _, _ | 8, _, _ | 9, _, _ | 10, _, _ | 11, _, _ | 12, _, _ | 13, _, _ =>
    go_enter Tryz.func100, Tryz.ntmps100
    go_wp2_with fail
    go_ret
    exact ⟨rfl, rfl⟩
  | k + 14, _, h => omega
theorem sign_ref (k : Nat) (s : ByteArray) (w : World) (h : signL[k]? = some s) :
    Calls Tryz.prog 102 #[.int .i64 ((k + 4 : Nat) : Int)] w fun e w' => e = .returned (.string s) ∧ w = w' := by
  have hk : k < 8 := (List.getElem?_eq_some_iff.1 h).1
  match k, hk, h with
  | 0, _, h | 1, _, h | 2, _, h | 3, _, h | 4, _, h | 5, _, h | 6, _, h | 7, _, h =>
    injection h with h; subst h
    go_enter Tryz.func102, Tryz.ntmps102
    go_wp2_with fail
    go_ret
    exact ⟨rfl, rfl⟩
theorem part_rat {n : Nat} (hIH : ∀ k, k < n → WriteR k) {ys : List Ex} {Ax : Option Addr} {cx : Nat} {w : World} {B : Nat} (hok : okL ys = true) (hs : SlE n (Lt B) w (.slice Ax ys.length cx) ys) {k : Nat} (hk : k < ys.length) :
    ∃ bb oo y Ay cy, Ax = some ⟨bb, oo, none⟩ ∧ bb < B ∧ kAt ys k = y ∧ w.cell? ⟨bb, oo + k * 6, none⟩ = some (.int .i64 y.op) ∧ w.cell? ⟨bb, oo + k * 6 + 1, none⟩ = some (.int .i64 y.v.kind) ∧ w.cell? ⟨bb, oo + k * 6 + 2, none⟩ = some (.int .i64 y.v.n) ∧ w.cell? ⟨bb, oo + k * 6 + 3, none⟩ = some (.string y.v.s) ∧ w.cell? ⟨bb, oo + k * 6 + 4, none⟩ = some (.string y.s) ∧ w.cell? ⟨bb, oo + k * 6 + 5, none⟩ = some (.slice Ay y.l.length cy) ∧
      ∀ (asks : Nat) (v : Value) (l : List UInt8) (w' : World), asks ≤ 9 → Below B w w' → OwnC w' B v l → B ≤ w'.heap.size → l.length + (txB n y asks).length ≤ 1000000 →
        Calls Tryz.prog 58 #[v, exV y (.slice Ay y.l.length cy), .int .i64 (asks : Int)] w' (RetAdds B w' v (l ++ txB n y asks)) := by
  obtain ⟨bb, oo, y, lw, n', rfl, rfl, hbb, hy, hyx, _, hyl, y0, y1, y2, y3, y4, y5⟩ := SlE.at_ hs hk
  obtain ⟨Ay, cy, rfl, _, _, _⟩ := hyl.open_
  refine ⟨bb, oo, y, Ay, cy, rfl, hbb, by unfold kAt; rw [List.getD_eq_getElem?_getD, hy]; rfl, y0, y1, y2, y3, y4, y5, ?_⟩
  intro asks v l w' ha hb hown hBw hlen
  exact hIH n' (Nat.lt_succ_self _) _ y asks w' B v l ha (okL_mem hok y (List.mem_of_getElem? hy)) hown hBw (hyx.below hb (Nat.le_refl _)) hlen
set_option maxHeartbeats 2000000 in
set_option maxRecDepth 100000 in
theorem writeR_not (n : Nat) (hIH : ∀ k, k < n → WriteR k) (u : Value) (x : Ex) (asks : Nat) (w : World) (base : Nat) (v : Value) (l : List UInt8) (h2 : x.op = 3) (hlt : ¬ levB x.op.toNat < asks) (hok : okX x = true) (h1 : x.l.length = 1) (hown : OwnC w base v l) (hbase : base ≤ w.heap.size) (hx : IsEx n (Lt base) w u x)
    (hlen : l.length + (txB (n + 1) x asks).length ≤ 1000000) :
    Calls Tryz.prog 58 #[v, u, .int .i64 (asks : Int)] w (RetAdds base w v (l ++ txB (n + 1) x asks)) := by
  have ht : txB (n + 1) x asks = [110, 111, 116, 32] ++ txB n (kAt x.l 0) 4 := by
    unfold txB
    dsimp only
    rw [if_neg hlt, if_neg (by omega), if_neg (by omega), if_pos h2]
    cases n <;> rfl
  rw [ht] at hlen ⊢
  obtain ⟨lv, rfl, _, Ax, cx, rfl⟩ := hx.cells
  rw [h2] at hlt ⊢
  have hlv : ¬ (levB 3 : Int) < (asks : Int) := by have : levB (3 : Int).toNat = levB 3 := rfl; omega
  have HL2 := Lib.hid (fun W => level_ref 3 W (by omega) (by omega))
  have hb1 := bone w (.cells #[.int .i64 3, .int .i64 x.v.kind, .int .i64 x.v.n, .string x.v.s, .string x.s, .slice Ax x.l.length cx] 28)
  have hN1 := Blk.new w 28 #[.int .i64 3, .int .i64 x.v.kind, .int .i64 x.v.n, .string x.v.s, .string x.s, .slice Ax x.l.length cx]
  have hBb1 : Below base w _ := hb1.mono hbase
  have hBw1 := Nat.le_trans hbase hb1.size
  have hown1 := hown.now hb1
  obtain ⟨bb, oo, y, Ay, cy, rfl, hbb, hky, y0, y1, y2, y3, y4, y5, hcy⟩ := part_rat hIH (okX_l hok) (ex_slice hx) (k := 0) (by omega)
  have hcell : ∀ o, (w.alloc (.cells #[.int .i64 3, .int .i64 x.v.kind, .int .i64 x.v.n, .string x.v.s, .string x.s, .slice (some ⟨bb, oo, none⟩) x.l.length cx] 28)).cell? ⟨bb, o, none⟩ = w.cell? ⟨bb, o, none⟩ := fun o => hBb1.cell (p := ⟨bb, o, none⟩) hbb
  rw [← hcell, Nat.zero_mul, Nat.add_zero] at y0 y1 y2 y3 y4 y5
  rw [hky] at hlen ⊢
  have i0 : (0 : Int) < (x.l.length : Int) := by omega
  have hk0 : 0 < x.l.length := by omega
  have HLN := Lib.hid hlen
  have HCY := Lib.hid hcy
  clear ht h2 hlt hlen hcy hky hx hcell h1
  go_enter Tryz.func58, Tryz.ntmps58
  obtain ⟨n0, n1, n2, n3, n4, n5⟩ := hN1.c6
  go_wp2_with fail
  refine (HL2.out _).mono ?_
  rintro e w2 ⟨rfl, rfl⟩
  go_wp2_with fail
  refine (HL2.out _).mono ?_
  rintro e w2 ⟨rfl, rfl⟩
  clear HL2
  generalize hw1 : (w.alloc (.cells #[.int .i64 3, .int .i64 x.v.kind, .int .i64 x.v.n, .string x.v.s, .string x.s, .slice (some ⟨bb, oo, none⟩) x.l.length cx] 28)) = w1 at *
  clear hw1
  go_wp2_with fail
  refine wp_region_held_tail 6 (fun W => W.cell? ⟨w.heap.size, 5, none⟩ = some (.slice (some ⟨bb, oo, none⟩) x.l.length cx) ∧ W.cell? ⟨bb, oo, none⟩ = some (.int .i64 y.op) ∧ W.cell? ⟨bb, oo + 1, none⟩ = some (.int .i64 y.v.kind) ∧ W.cell? ⟨bb, oo + 2, none⟩ = some (.int .i64 y.v.n) ∧ W.cell? ⟨bb, oo + 3, none⟩ = some (.string y.v.s) ∧ W.cell? ⟨bb, oo + 4, none⟩ = some (.string y.s) ∧ W.cell? ⟨bb, oo + 5, none⟩ = some (.slice Ay y.l.length cy)) (by kernel_rfl) (by kernel_rfl) ⟨n5, y0, y1, y2, y3, y4, y5⟩ (fun hHeld => ?_)
  simp only [List.take_succ_cons, List.take_zero]
  refine takeL (v := ?v0) 0 rfl (by kernel_rfl) (by kernel_rfl) (by kernel_rfl) (fun _ _ _ h => h) rfl ?hy0 hHeld ?rest0
  case hy0 => (intro W hW; obtain ⟨k5, k6, k7, k8, k9, k10, k11⟩ := hW; go_simp <;> first | rfl | (rw [if_pos hk0]; rfl))
  simp only [Act.put, List.setIfInBounds_toArray, List.set_cons_zero, List.set_cons_succ]
  refine takeL (v := ?v2) 2 rfl (by kernel_rfl) (by kernel_rfl) (by kernel_rfl) (fun _ _ _ h => h) rfl ?hy2 hHeld ?rest2
  case hy2 => (intro W hW; obtain ⟨k5, k6, k7, k8, k9, k10, k11⟩ := hW; go_simp <;> first | rfl | (rw [if_pos hk0]; rfl))
  simp only [Act.put, List.setIfInBounds_toArray, List.set_cons_zero, List.set_cons_succ]
  refine takeL (v := ?v3) 3 rfl (by kernel_rfl) (by kernel_rfl) (by kernel_rfl) (fun _ _ _ h => h) rfl ?hy3 hHeld ?rest3
  case hy3 => (intro W hW; obtain ⟨k5, k6, k7, k8, k9, k10, k11⟩ := hW; go_simp <;> first | rfl | (rw [if_pos hk0]; rfl))
  simp only [Act.put, List.setIfInBounds_toArray, List.set_cons_zero, List.set_cons_succ]
  refine takeL (v := ?v4) 4 rfl (by kernel_rfl) (by kernel_rfl) (by kernel_rfl) (fun _ _ _ h => h) rfl ?hy4 hHeld ?rest4
  case hy4 => (intro W hW; obtain ⟨k5, k6, k7, k8, k9, k10, k11⟩ := hW; go_simp <;> first | rfl | (rw [if_pos hk0]; rfl))
  simp only [Act.put, List.setIfInBounds_toArray, List.set_cons_zero, List.set_cons_succ]
  refine takeL (v := ?v5) 5 rfl (by kernel_rfl) (by kernel_rfl) (by kernel_rfl) (fun _ _ _ h => h) rfl ?hy5 hHeld ?rest5
  case hy5 => (intro W hW; obtain ⟨k5, k6, k7, k8, k9, k10, k11⟩ := hW; go_simp <;> first | rfl | (rw [if_pos hk0]; rfl))
  simp only [Act.put, List.setIfInBounds_toArray, List.set_cons_zero, List.set_cons_succ]
  refine onlyL 1 rfl rfl (by kernel_rfl) (fun K hK => ?_)
  have hownd : OwnC w1.drew base v l := hown1
  have hNd : Blk w1.drew w.heap.size 28 #[.int .i64 3, .int .i64 x.v.kind, .int .i64 x.v.n, .string x.v.s, .string x.s, .slice (some ⟨bb, oo, none⟩) x.l.length cx] := hN1
  have hbd : Below w.heap.size w w1.drew := hb1.drew
  have hBbd : Below base w w1.drew := hBb1.drew
  have hBwd : base ≤ w1.drew.heap.size := hBw1
  obtain ⟨_, d0, d1, d2, d3, d4, d5⟩ := hHeld
  generalize w1.drew = wd at *
  refine wp_appendStr (v := v) (.tmp 43) (.const (.string ⟨#[110, 111, 116, 32]⟩)) rfl rfl hownd ⟨#[110, 111, 116, 32]⟩ rfl (by have := HLN.out; simp at this; show _ + 4 ≤ _; omega) hBwd ?_
  intro v2 w2 hA2
  have hN2 := hA2.keep hownd hNd (by decide)
  have hb2 := hA2.below hownd hBwd
  have hcell : ∀ o, w2.cell? ⟨bb, o, none⟩ = wd.cell? ⟨bb, o, none⟩ := fun o => hb2.cell (p := ⟨bb, o, none⟩) hbb
  refine hK.out _ _ ⟨hN2.c6.2.2.2.2.2, (hcell _).trans d0, (hcell _).trans d1, (hcell _).trans d2, (hcell _).trans d3, (hcell _).trans d4, (hcell _).trans d5⟩ (fun hHeld => ?_)
  clear hK K
  have hz := HCY.out 4 v2 _ w2 (by omega) (hBbd.trans hb2) hA2.own (Nat.le_trans hBwd hb2.size) (by have := HLN.out; simp at this ⊢; omega)
  rw [show ((4 : Nat) : Int) = 4 from rfl] at hz
  have HZ := Lib.hid hz
  clear hz HCY hcell
  refine doneL (by kernel_rfl) ?_
  simp only [List.drop_succ_cons, List.drop_zero]
  go_wp2_with fail
  (with_reducible refine HZ.out.mono ?_)
  rintro e w3 ⟨v3, rfl, hA3⟩
  go_wp2_with fail
  go_ret
  exact ⟨v3, rfl, by have := Adds.pre hbd (hA2.trans hA3); simpa using this⟩
end Go.Proofs.YtijmnenojbfdnaaGreatDoor
