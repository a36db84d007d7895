/- Texts of this seat, merged. -/
import Derived.BigQuiet
import Derived.WalkKit
import Derived.WalkSpells
import Derived.WalkLawsBesides
import Derived.Lib.Hide
import Derived.Deep.Draws
import Derived.Deep.OwnRows
import Derived.Test.YtijmnenojbfdnaaGreatDoorProg
import Derived.Outline
import Derived.Deep.Light
import Derived.Lib.SlicesCompact
import Derived.Deep.RegionWith
import Derived.Deep.QuietTactic
import Derived.Deep.RegionHeld3
import Derived.Shelf.Abstract
import Derived.Laws.IdiomStrings
import Derived.Maps.AppendAt
import Derived.Deep.AppendLies
import Derived.RegionTactic
import Derived.OwnWalk
import Derived.Sort.OwnSorted
import Derived.Lib.Bytes
import Derived.Shelf.Strings.Builder1
import Derived.Shelf.Small.Bits
import Derived.Shelf.Small.Wraps
import Derived.Shelf.Strings.BuilderF
import Derived.Shelf.Strings.BuilderK
import Derived.Shelf.Strconv.Atoi
import Derived.Shelf.Strconv.Itoa0
import Derived.Shelf.Strconv.Itoa1
import Derived.Shelf.LaysM
import Derived.Shelf.Strconv.Itoa2
import Derived.Shelf.Strconv.Itoa3
import Derived.Shelf.Strconv.AtoiErrFast
import Derived.Shelf.Strconv.ParseIntEmpty
import Derived.Shelf.Strconv.AtoiFail
import Derived.Shelf.Strconv.Clone
import Derived.Shelf.Strconv.SyntaxError
import Derived.Shelf.LaysC
import Derived.Shelf.Strconv.ToError
import Derived.Shelf.Strconv.Lower
import Derived.Shelf.Strconv.ParseUint10
import Derived.Shelf.Strconv.ParseUint10Empty
import Derived.Shelf.Strconv.ParseUint10Any
import Derived.Shelf.Strconv.ParseInt10
import Derived.Shelf.Strconv.AtoiLong
import Derived.Shelf.Strconv.AtoiInnerAll
import Derived.Shelf.Strconv.RangeError
import Derived.Shelf.Strconv.ToErrorRange
import Derived.Shelf.Strconv.AtoiAll
import Derived.Shelf.Strconv.ErrVarAll
import Derived.Shelf.Strings.Search1
import Derived.Shelf.Strings.Search2
import Derived.Shelf.Strings.Search3
import Derived.Shelf.Strings.Shaped
import Derived.Shelf.Sort.Plain
import Derived.Shelf.Strings.Prefix
import Derived.Shelf.Strings.BuilderCap
import Derived.Shelf.Slices.Turned
import Derived.Shelf.Slices.Equal
import Derived.Ground.Names2Prog
import Derived.Shelf.Slices.Clone
import Derived.Shelf.Slices.CompactS
import Derived.Shelf.Slices.Cells
import Derived.Shelf.Slices.In.SortNone
import Derived.Shelf.Slices.Empties2
import Derived.Maps.OwnOps
import Derived.Maps.OwnSet
import Derived.Maps.Views
import Derived.StringKeys
import Derived.Lib.Builder
import Derived.Lib.AppendStr
import Derived.Lib.UnsafeStr
import Derived.Lib.FrozenHead2
import Derived.Lib.OthersKept
import Derived.Laws.Externs
import Derived.Test.YtijmnenojbfdnaaGreatDoorChecked
import Derived.Laws.MakeOwn
import Derived.Laws.Entries
import Derived.Test.YtijmnenojbfdnaaGreatDoorEq01
import Derived.Test.YtijmnenojbfdnaaGreatDoorEq02
import Derived.Test.YtijmnenojbfdnaaGreatDoorEq03
import Derived.Test.YtijmnenojbfdnaaGreatDoorEq04
import Derived.Test.YtijmnenojbfdnaaGreatDoorEq05
import Derived.Test.YtijmnenojbfdnaaGreatDoorEq06
import Derived.Test.YtijmnenojbfdnaaGreatDoorEq07
import Derived.Test.YtijmnenojbfdnaaGreatDoorEq08
import Derived.Test.YtijmnenojbfdnaaGreatDoorEq09
import Derived.Test.YtijmnenojbfdnaaGreatDoorEq10
import Derived.Test.YtijmnenojbfdnaaGreatDoorEq11
import Derived.Test.YtijmnenojbfdnaaGreatDoorEq12
import Derived.Test.YtijmnenojbfdnaaGreatDoorEq13
import Derived.Test.YtijmnenojbfdnaaGreatDoorEq14
import Derived.Test.YtijmnenojbfdnaaGreatDoorEq15
import Derived.Test.YtijmnenojbfdnaaGreatDoorEq16
import Derived.Test.YtijmnenojbfdnaaGreatDoorEq17
import Derived.Test.YtijmnenojbfdnaaGreatDoorEq18
import Derived.Test.YtijmnenojbfdnaaGreatDoorEq19
import Derived.Test.YtijmnenojbfdnaaGreatDoorEq20
import Derived.Test.YtijmnenojbfdnaaGreatDoorEq21
import Derived.Test.YtijmnenojbfdnaaGreatDoorEq22
import Derived.Test.YtijmnenojbfdnaaGreatDoorEq23
import Derived.Test.YtijmnenojbfdnaaGreatDoorEq24
import Derived.Test.YtijmnenojbfdnaaGreatDoorEq25
import Derived.Test.YtijmnenojbfdnaaGreatDoorEq26
import Derived.Test.YtijmnenojbfdnaaGreatDoorEq27
import Derived.Test.YtijmnenojbfdnaaGreatDoorEq28
import Derived.Test.YtijmnenojbfdnaaGreatDoorEq29
import Derived.Test.YtijmnenojbfdnaaGreatDoorEq30
import Derived.Test.YtijmnenojbfdnaaGreatDoorEq31
import Derived.Test.YtijmnenojbfdnaaGreatDoorEq32
set_option linter.unusedSimpArgs false
set_option linter.unusedVariables false
namespace Go.Proofs.YtijmnenojbfdnaaGreatDoor
open Go.RowKit
set_option maxHeartbeats 4000000 in
theorem count_ref : ∀ (n : Nat) (x : Ex) (u : Value) (w : World) (a d : Int), IsEx n (Lt w.heap.size) w u x → -1 ≤ a → a ≤ 400 → -1 ≤ d → d ≤ 60 →
    Calls Tryz.prog 56 #[u, .int .i64 a, .int .i64 d] w fun e w' => e = .returned (.int .i64 (cntX x a d)) ∧ Below w.heap.size w w' := by
  intro n
  induction n using Nat.strongRecOn with
  | _ n ih =>
    intro x u w a d h ha1 ha2 hd1 hd2
    have h0 := h
    obtain ⟨lv, rfl, h1, h2, h3, h4⟩ := h
    obtain ⟨A, c, rfl, l1, l2, h4⟩ := h4.open_
    have HE := Lib.hid (cntX_eq x a d)
    have hb := bone w (.cells #[.int .i64 x.op, .int .i64 x.v.kind, .int .i64 x.v.n, .string x.v.s, .string x.s, .slice A x.l.length c] 28)
    have hB := Blk.new w 28 #[.int .i64 x.op, .int .i64 x.v.kind, .int .i64 x.v.n, .string x.v.s, .string x.s, .slice A x.l.length c]
    have hx1 := h0.now hb
    have hl1 := SlE.now h4 hb
    clear h0 h4
    have wa : IntKind.i64.wrap (a - 1) = a - 1 := IntWalk.i64_in _ (by omega)
    have wd : IntKind.i64.wrap (d - 1) = d - 1 := IntWalk.i64_in _ (by omega)
    generalize hw1 : w.alloc (.cells #[.int .i64 x.op, .int .i64 x.v.kind, .int .i64 x.v.n, .string x.v.s, .string x.s, .slice A x.l.length c] 28) = w1 at *
    obtain ⟨q0, q1, q2, q3, q4, q5⟩ := hB.c6
    by_cases c1 : a ≤ 0
    · have HR : Hid (cntX x a d = -1) := by show _ = _; rw [HE.out, if_pos (.inl c1)]
      have c1' : a - 1 < 0 := by omega
      clear c1
      go_enter Tryz.func56, Tryz.ntmps56
      go_wp2_with fail
      go_ret
      exact ⟨by rw [HR.out]; rfl, hb⟩
    have c1' : 0 ≤ a - 1 := by omega
    by_cases c2 : d ≤ 0
    · have HR : Hid (cntX x a d = -1) := by show _ = _; rw [HE.out, if_pos (.inr (.inl c2))]
      have c2' : d < 1 := by omega
      clear c1 c2
      go_enter Tryz.func56, Tryz.ntmps56
      go_wp2_with fail
      go_ret
      exact ⟨by rw [HR.out]; rfl, hb⟩
    have c2' : 1 ≤ d := by omega
    go_enter Tryz.func56, Tryz.ntmps56
    go_wp2_with fail
    refine (shape_ref _ x _ _ hx1).mono ?_
    rintro e w2 ⟨rfl, hb2⟩
    have hbw2 := bthen hb hb2
    have hl2 := SlE.now hl1 hb2
    have hB2 := hB.now hb2
    clear q0 q1 q2 q3 q4 q5 hB hl1 hx1
    obtain ⟨q0, q1, q2, q3, q4, q5⟩ := hB2.c6
    generalize hs : shapeX x = sh at *
    cases sh
    · have HR : Hid (cntX x a d = -1) := by show _ = _; rw [HE.out, if_pos (.inr (.inr rfl))]
      go_wp2_with fail
      go_ret
      exact ⟨by rw [HR.out]; rfl, hbw2⟩
    have HR : Hid (cntX x a d = cntL (x.l.drop 0) (a - 1) (d - 1)) := by show _ = _; rw [HE.out, if_neg (by simp [c1, c2]), List.drop_zero]
    clear HE hs
    go_wp2_with fail
    go_loopw [1, 7] (fun av i wr => ∃ (k : Nat) (a' : Int), k ≤ x.l.length ∧ i = .int .i64 k ∧ av = .int .i64 a' ∧ -1 ≤ a' ∧ a' ≤ 400 ∧ (0 ≤ a' → cntX x a d = cntL (x.l.drop k) a' (d - 1)) ∧ (a' < 0 → cntX x a d = a') ∧ Below w2.heap.size w2 wr) (fun _ i _ => x.l.length - (intOf i).toNat)
    case atStart => exact ⟨0, a - 1, Nat.zero_le _, rfl, rfl, by omega, by omega, fun _ => HR.out, fun h => by omega, Below.refl _ _⟩
    case round =>
      obtain ⟨k, a', hk, rfl, rfl, a1, a2, hc, hn, hbr2⟩ := hrel
      have HC := Lib.hid hc
      have HN := Lib.hid hn
      have hbr := bthen hbw2 hbr2
      have hBr := hB2.now hbr2
      clear hc hn HR q0 q1 q2 q3 q4 q5
      obtain ⟨q0, q1, q2, q3, q4, q5⟩ := hBr.c6
      by_cases hlt : k < x.l.length
      · have i1 : (0 : Int) ≤ (k : Int) := by omega
        have i2 : (k : Int) < (x.l.length : Int) := by omega
        by_cases hz0 : a' < 0
        · have HRR := Lib.hid (HN.out hz0)
          go_wp2_with fail
          go_ret
          exact ⟨by rw [HRR.out]; rfl, hbr⟩
        have hz0' : 0 ≤ a' := by omega
        obtain ⟨b, o, y, lv, n', hn, rfl, hD, hx, hex, hfv, hsl, e0, e1, e2, e3, e4, e5⟩ := (SlE.now hl2 hbr2).at_ hlt
        have HX := Lib.hid (cntL_drop hx a' (d - 1))
        have HLO := Lib.hid (cnt_low y a' (d - 1))
        have HRG := Lib.hid (cnt_range y a' (d - 1) a2)
        obtain ⟨A2, c2', rfl, m1, m2, _⟩ := hsl.open_
        have hcall := Lib.hid (ih n' (by omega) y _ _ a' (d - 1) hex (by omega) a2 (by omega) (by omega))
        clear hx hex hfv hsl hn
        generalize cntX y a' (d - 1) = z at *
        go_wp2_with fail
        refine hcall.out.mono ?_
        rintro e w4 ⟨rfl, hb4⟩
        have hbw4' : Below w2.heap.size w2 w4 := bthen hbr2 hb4
        have HRR : Hid (cntX x a d = if z < 0 then -1 else cntL (x.l.drop (k + 1)) z (d - 1)) := by show _ = _; rw [HC.out hz0', HX.out]
        clear hz0 q0 q1 q2 q3 q4 q5
        go_wp2_with fail
        go_roundw
        case rel =>
          refine ⟨k + 1, z, by omega, by go_num, rfl, ?_, ?_, fun h => by rw [HRR.out, if_neg (by omega)], fun h => by rw [HRR.out, if_pos h, HLO.out h], hbw4'⟩
          · rcases Int.lt_or_le z 0 with h | h
            · have := HLO.out h; omega
            · omega
          · have := HRG.out; omega
        case measure => simp [intOf]; omega
      · have i2 : (x.l.length : Int) ≤ (k : Int) := by omega
        have HRR : Hid (cntX x a d = a') := by
          show _ = _
          rcases Int.lt_or_le a' 0 with h | h
          · exact HN.out h
          · rw [HC.out h, List.drop_eq_nil_of_le (by omega), cntL_nil]
        go_wp2_with fail
        go_ret
        exact ⟨by rw [HRR.out]; rfl, hbr⟩
theorem validX_ref (n : Nat) (x : Ex) (u : Value) (w : World) (h : IsEx n (Lt w.heap.size) w u x) :
    Calls Tryz.prog 19 #[u] w fun e w' => e = .returned (.bool (validX x)) ∧ Below w.heap.size w w' := by
  have h0 := h
  obtain ⟨lv, rfl, h1, h2, h3, h4⟩ := h
  have hb := bone w (.cells #[.int .i64 x.op, .int .i64 x.v.kind, .int .i64 x.v.n, .string x.v.s, .string x.s, lv] 28)
  have hc := count_ref n x _ _ 400 60 (h0.now hb) (by omega) (by omega) (by omega) (by omega)
  have HC := Lib.hid hc
  have HV : Hid (validX x = decide (0 ≤ cntX x 400 60)) := rfl
  clear hc h4 h0
  generalize cntX x 400 60 = z at *
  go_enter Tryz.func19, Tryz.ntmps19
  go_wp2_with fail
  refine HC.out.mono ?_
  rintro e w2 ⟨rfl, hb2⟩
  have hbw := bthen hb hb2
  clear hb hb2 HC
  go_wp2_with fail
  go_ret
  exact ⟨ret_bool HV.out.symm, hbw⟩
end Go.Proofs.YtijmnenojbfdnaaGreatDoor

namespace Go.Proofs.YtijmnenojbfdnaaGreatDoor
open Go.RowKit
def RetTr (w : World) (e : Ending) (w' : World) : Prop := e = .returned (.bool true) ∧ Below w.heap.size w w'
abbrev exC6 (x : Ex) (Ax : Option Addr) (cx : Nat) : Array Value := #[.int .i64 x.op, .int .i64 x.v.kind, .int .i64 x.v.n, .string x.v.s, .string x.s, .slice Ax x.l.length cx]
end Go.Proofs.YtijmnenojbfdnaaGreatDoor

namespace Go.Proofs.YtijmnenojbfdnaaGreatDoor
open Go.RowKit
def chooseB (l : List Var) (k : Int) (z : Ex) : Bool := decide (z.l.length = 0) && decide ((givenE l z).2 = 0) && decide ((givenE l z).1 = k)
def Dn (D : Nat → Prop) (w w' : World) (b : Nat) : Prop := D b ∨ (w.heap.size ≤ b ∧ b < w'.heap.size)
theorem IsEx.keepDn {n : Nat} {D D' : Nat → Prop} {w w' : World} {u : Value} {x : Ex} (h : IsEx n D w u x) (hd : ∀ b, D b → D' b) (hs : Same D w w') : IsEx n D' w' u x := by
  obtain ⟨lv, e, h1, h2, h3, h4⟩ := h
  exact ⟨lv, e, h1, h2, h3, Sl.keep h4 (RExN.kept n) hd hs⟩
theorem IsEx.nowD {n : Nat} {D : Nat → Prop} {w w' : World} {u : Value} {x : Ex} (h : IsEx n D w u x) (hD : ∀ b, D b → b < w.heap.size) (hb : Below w.heap.size w w') : IsEx n D w' u x :=
  h.keepDn (fun _ h => h) (fun b hb' => hb.block b (hD b hb'))
theorem heap6 (w : World) {g b : Nat} (hne : b ≠ g) (a0 a1 a2 a3 a4 a5 : Value) : ((((((w.setCell ⟨g, 0, none⟩ a0).setCell ⟨g, 1, none⟩ a1).setCell ⟨g, 2, none⟩ a2).setCell ⟨g, 3, none⟩ a3).setCell ⟨g, 4, none⟩ a4).setCell ⟨g, 5, none⟩ a5).heap[b]? = w.heap[b]? := by
  have key : ∀ (w : World) (i : Nat) (u : Value), (w.setCell ⟨g, i, none⟩ u).heap[b]? = w.heap[b]? := fun w i u => Below.heap_setCell w ⟨g, i, none⟩ u b hne
  rw [key, key, key, key, key, key]
theorem below6 {B g : Nat} {w w1 : World} (h : Below B w w1) (hg : B ≤ g) (a0 a1 a2 a3 a4 a5 : Value) : Below B w ((((((w1.setCell ⟨g, 0, none⟩ a0).setCell ⟨g, 1, none⟩ a1).setCell ⟨g, 2, none⟩ a2).setCell ⟨g, 3, none⟩ a3).setCell ⟨g, 4, none⟩ a4).setCell ⟨g, 5, none⟩ a5) :=
  (((((h.setCell (p := ⟨g, 0, none⟩) hg a0).setCell (p := ⟨g, 1, none⟩) hg a1).setCell (p := ⟨g, 2, none⟩) hg a2).setCell (p := ⟨g, 3, none⟩) hg a3).setCell (p := ⟨g, 4, none⟩) hg a4).setCell (p := ⟨g, 5, none⟩) hg a5
theorem appExR : AppInfo Tryz.prog 26 28 6 := AppInfo.mk' (z := .agg #[.int .i64 0, .int .i64 0, .int .i64 0, .string ⟨#[]⟩, .string ⟨#[]⟩, .slice none 0 0]) (bytes := 80) Tryz.underlying26 (by kernel_rfl) (by omega) rfl (by omega)
theorem nod_len : ∀ l : List Ex, l.length ≤ nodL l
  | [] => by rw [nodL_nil]; exact Nat.le_refl _
  | x :: l => by rw [nodL_cons, List.length_cons]; have := nod_len l; have := nodX_pos x; omega
theorem nod_mem : ∀ (l : List Ex) (z : Ex), z ∈ l → nodX z ≤ nodL l
  | [], z, h => by cases h
  | x :: l, z, h => by
    rw [nodL_cons]
    rcases List.mem_cons.1 h with rfl | h
    · omega
    · have := nod_mem l z h; omega
structure Caps (l : List Var) (k : Int) (gv gk gp cv : Nat) (Av : Option Addr) (w : World) : Prop where
  bv : Blk w gv 22 #[.slice Av l.length cv]
  bk : Blk w gk 3 #[.int .i64 k]
  bp : Blk w gp 71 #[.func (.func 34) #[] #[.pointer (some ⟨gv, 0, none⟩), .pointer (some ⟨gk, 0, none⟩), .pointer (some ⟨gp, 0, none⟩)]]
  vs : SlX (Lt w.heap.size) w (.slice Av l.length cv) l
theorem Caps.now {l : List Var} {k : Int} {gv gk gp cv : Nat} {Av : Option Addr} {w w' : World} (h : Caps l k gv gk gp cv Av w) (hb : Below w.heap.size w w') : Caps l k gv gk gp cv Av w' :=
  ⟨h.bv.now hb, h.bk.now hb, h.bp.now hb, h.vs.now hb⟩
def RetPut (N : Nat) (D : Nat → Prop) (z : Ex) (w : World) (e : Ending) (w' : World) : Prop := ∃ v, e = .returned v ∧ IsEx N (Dn D w w') w' v z ∧ Below w.heap.size w w'
def PutC (l : List Var) (k : Int) (gv gk gp cv : Nat) (Av : Option Addr) (m n : Nat) : Prop := ∀ (D : Nat → Prop) (x y : Ex) (ux uy : Value) (w : World), nodX x ≤ 1000 → (∀ b, D b → b < w.heap.size) → Caps l k gv gk gp cv Av w → IsEx n D w ux x → IsEx m D w uy y →
  Calls Tryz.prog 34 #[ux, uy, .pointer (some ⟨gv, 0, none⟩), .pointer (some ⟨gk, 0, none⟩), .pointer (some ⟨gp, 0, none⟩)] w (RetPut (n + m + 1) D (putE (chooseB l k) y x) w)
def OutOf (D : Nat → Prop) (B g b : Nat) : Prop := (B ≤ b ∧ b ≤ g) ∨ (b < B ∧ ¬ D b)
def OwnP (N : Nat) (D : Nat → Prop) (B g : Nat) (w : World) (v : Value) (xs : List Ex) : Prop := OwnR 6 (RExN N) (OutOf D B g) w (g + 1) 28 v xs
section
variable {N B g : Nat} {D : Nat → Prop} {w w' : World} {v : Value} {xs : List Ex}
theorem OwnP.now (h : OwnP N D B g w v xs) (hb : Below w.heap.size w w') : OwnP N D B g w' v xs := OwnR.now h (RExN.kept N) hb
theorem OwnP.lt (h : OwnP N D B g w v xs) : ∀ b, v.ownBlock = some b → g + 1 ≤ b ∧ b < w.heap.size := OwnR.lt h
theorem OwnP.set_ (h : OwnP N D B g w v xs) (hB : B ≤ g) (u : Value) : OwnP N D B g (w.setCell ⟨g, 5, none⟩ u) v xs :=
  OwnR.far (p := ⟨g, 5, none⟩) h (RExN.kept N) (.inl ⟨hB, Nat.le_refl _⟩) (fun e => by have := (h.lt g e).1; omega) u
theorem OwnP.sl (h : OwnP N D B g w v xs) : Sl 6 (RExN N) (fun b => D b ∨ (g < b ∧ b < w.heap.size)) w v xs := by
  have hlt := h.lt
  obtain ⟨cs, h, he⟩ := h
  refine Sl.of_own h rfl (fun b hb => .inr ⟨(hlt b hb).1, (hlt b hb).2⟩) fun i x hx => ?_
  obtain ⟨es, h1, h2, h3⟩ := he i x hx
  refine ⟨es, h1, h2, RExN.kept N _ _ _ _ _ _ (fun b hb => ?_) (Same.refl _ _) h3⟩
  obtain ⟨hb1, hb2, hb3⟩ := hb
  by_cases hd : D b
  · exact .inl hd
  · refine .inr ⟨?_, hb1⟩
    rcases Nat.lt_or_ge g b with hgb | hgb
    · exact hgb
    · rcases Nat.lt_or_ge b B with hbB | hbB
      · exact absurd (.inr ⟨hbB, hd⟩) hb3
      · exact absurd (.inl ⟨hbB, hgb⟩) hb3
theorem OwnP.off {wr w0 : World} (h : OwnP N D B g wr v xs) (hBg : B ≤ g) (hD : ∀ b, D b → b < B) (hs : wr.heap.size ≤ w0.heap.size) (hg : g < wr.heap.size) {b : Nat} (hb : D b ∨ (wr.heap.size ≤ b ∧ b < w0.heap.size)) : Off (OutOf D B g) w0 v b := by
  refine ⟨?_, fun e => ?_, fun e => ?_⟩
  · rcases hb with hb | hb
    · have := hD b hb; omega
    · exact hb.2
  · have := h.lt b e
    rcases hb with hb | hb
    · have := hD b hb; omega
    · omega
  · rcases hb with hb | hb
    · have := hD b hb
      rcases e with e | e
      · omega
      · exact e.2 hb
    · rcases e with e | e
      · omega
      · omega
end
end Go.Proofs.YtijmnenojbfdnaaGreatDoor
