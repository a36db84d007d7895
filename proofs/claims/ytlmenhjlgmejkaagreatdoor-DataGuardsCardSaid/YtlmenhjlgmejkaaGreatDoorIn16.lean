/- Texts of this seat, merged. -/
import Derived.BigQuiet
import Derived.WalkKit
import Derived.WalkSpells
import Derived.WalkLawsBesides
import Derived.Lib.Hide
import Derived.Deep.Draws
import Derived.Deep.OwnRows
import Derived.Test.YtlmenhjlgmejkaaGreatDoorProg
import Derived.Outline
import Derived.Deep.Light
import Derived.Lib.SlicesCompact
import Derived.Deep.RegionWith
import Derived.Deep.QuietTactic
import Derived.Deep.RegionHeld3
import Derived.Shelf.Abstract
import Derived.Laws.IdiomStrings
import Derived.Maps.AppendAt
import Derived.Deep.AppendLies
import Derived.RegionTactic
import Derived.OwnWalk
import Derived.Sort.OwnSorted
import Derived.Lib.Bytes
import Derived.Shelf.Strings.Builder1
import Derived.Shelf.Small.Bits
import Derived.Shelf.Small.Wraps
import Derived.Shelf.Strings.BuilderF
import Derived.Shelf.Strings.BuilderK
import Derived.Shelf.Strconv.Itoa0
import Derived.Shelf.Strconv.Itoa1
import Derived.Shelf.LaysM
import Derived.Shelf.Strconv.Itoa2
import Derived.Shelf.Strconv.Itoa3
import Derived.Shelf.Sort.Plain
import Derived.Shelf.Strings.BuilderCap
import Derived.Shelf.Slices.Turned
import Derived.Shelf.Slices.Reverse
import Derived.Shelf.Slices.Equal
import Derived.Ground.Names2Prog
import Derived.Shelf.Slices.Clone
import Derived.Shelf.Slices.CompactS
import Derived.Shelf.Slices.Cells
import Derived.Shelf.Slices.In.SortNone
import Derived.Shelf.Slices.Empties2
import Derived.Maps.OwnOps
import Derived.Maps.OwnSet
import Derived.Maps.Views
import Derived.StringKeys
import Derived.Lib.Builder
import Derived.Lib.AppendStr
import Derived.Lib.UnsafeStr
import Derived.Lib.FrozenHead2
import Derived.Lib.OthersKept
import Derived.Laws.Externs
import Derived.Lib.Slices
import Derived.Laws.MakeOwn
import Derived.Laws.Entries
import Derived.Test.YtlmenhjlgmejkaaGreatDoorIn01
import Derived.Test.YtlmenhjlgmejkaaGreatDoorIn02
import Derived.Test.YtlmenhjlgmejkaaGreatDoorIn03
import Derived.Test.YtlmenhjlgmejkaaGreatDoorIn04
import Derived.Test.YtlmenhjlgmejkaaGreatDoorIn05
import Derived.Test.YtlmenhjlgmejkaaGreatDoorIn06
import Derived.Test.YtlmenhjlgmejkaaGreatDoorIn07
import Derived.Test.YtlmenhjlgmejkaaGreatDoorIn08
import Derived.Test.YtlmenhjlgmejkaaGreatDoorIn09
import Derived.Test.YtlmenhjlgmejkaaGreatDoorIn10
import Derived.Test.YtlmenhjlgmejkaaGreatDoorIn11
import Derived.Test.YtlmenhjlgmejkaaGreatDoorIn12
import Derived.Test.YtlmenhjlgmejkaaGreatDoorIn13
import Derived.Test.YtlmenhjlgmejkaaGreatDoorIn14
import Derived.Test.YtlmenhjlgmejkaaGreatDoorIn15
set_option linter.unusedSimpArgs false
set_option linter.unusedVariables false
namespace Go.Proofs.YtlmenhjlgmejkaaGreatDoor
open Go.RowKit
def LikeTo (ks : List Int) (z0 : Int) (t : Bool) (k : Nat) : Prop := ∀ j z, j < k → ks[j]? = some z → z = z0 ∧ (t = true → z = 1)
end Go.Proofs.YtlmenhjlgmejkaaGreatDoor

namespace Go.Proofs.YtlmenhjlgmejkaaGreatDoor
open Go.RowKit
def RWr (n : Nat) : ElemR Wr := fun D w x cs => ∃ lv, cs = [.int .i64 x.var, .int .i64 x.x.op, .int .i64 x.x.v.kind, .int .i64 x.x.v.n, .string x.x.v.s, .string x.x.s, lv] ∧ Fit x.var ∧
  IsEx n D w (.agg #[.int .i64 x.x.op, .int .i64 x.x.v.kind, .int .i64 x.x.v.n, .string x.x.v.s, .string x.x.s, lv]) x.x
theorem IsEx.keep {n : Nat} {D D' : Nat → Prop} {w w' : World} {u : Value} {x : Ex} (h : IsEx n D w u x) (hd : ∀ b, D b → D' b) (hs : Same D w w') : IsEx n D' w' u x := by
  obtain ⟨lv, e, h1, h2, h3, h4⟩ := h
  exact ⟨lv, e, h1, h2, h3, Sl.keep h4 (RExN.kept n) hd hs⟩
theorem RWr.kept (n : Nat) : ElemR.Kept (RWr n) := by
  rintro D D' w w' x cs hd hs ⟨lv, rfl, h1, h2⟩
  exact ⟨lv, rfl, h1, h2.keep hd hs⟩
def SlW (n : Nat) := Sl 7 (RWr n)
def RWRow (n : Nat) : ElemR (List Wr) := fun D w r cs => ∃ v, cs = [v] ∧ SlW n D w v r
theorem RWRow.kept (n : Nat) : ElemR.Kept (RWRow n) := by
  rintro D D' w w' x cs hd hs ⟨v, rfl, h⟩
  exact ⟨v, rfl, Sl.keep h (RWr.kept n) hd hs⟩
def SlWW (n : Nat) := Sl 1 (RWRow n)
def IsDn (n : Nat) (D : Nat → Prop) (w : World) (u : Value) (d : DNet) : Prop :=
  ∃ tv xv iv gv wv, u = .agg #[.int .i64 d.net.places, tv, .int .i64 d.net.source, .int .i64 d.net.sink, xv, iv, gv, wv] ∧ IsNet D w (.agg #[.int .i64 d.net.places, tv, .int .i64 d.net.source, .int .i64 d.net.sink]) d.net ∧
    SlX D w xv d.vars ∧ SlV D w iv d.init ∧ SlE n D w gv d.guards ∧ SlWW n D w wv d.writes
def IsSt (D : Nat → Prop) (w : World) (u : Value) (s : St) : Prop := ∃ mv vv, u = .agg #[mv, vv] ∧ SlI D w mv s.marks ∧ SlV D w vv s.vals
def RSt : ElemR St := fun D w s cs => ∃ mv vv, cs = [mv, vv] ∧ SlI D w mv s.marks ∧ SlV D w vv s.vals
theorem RSt.kept : ElemR.Kept RSt := by
  rintro D D' w w' x cs hd hs ⟨mv, vv, rfl, h1, h2⟩
  exact ⟨mv, vv, rfl, Sl.keep h1 RInt.kept hd hs, Sl.keep h2 RVal.kept hd hs⟩
def SlSt := Sl 2 RSt
section
variable {w w' : World} {u : Value} {n : Nat}
theorem SlW.now {zs : List Wr} (h : SlW n (Lt w.heap.size) w u zs) (hb : Below w.heap.size w w') : SlW n (Lt w'.heap.size) w' u zs := Sl.below h (RWr.kept n) hb hb.size
theorem SlWW.now {zs : List (List Wr)} (h : SlWW n (Lt w.heap.size) w u zs) (hb : Below w.heap.size w w') : SlWW n (Lt w'.heap.size) w' u zs := Sl.below h (RWRow.kept n) hb hb.size
theorem SlSt.now {zs : List St} (h : SlSt (Lt w.heap.size) w u zs) (hb : Below w.heap.size w w') : SlSt (Lt w'.heap.size) w' u zs := Sl.below h RSt.kept hb hb.size
theorem IsDn.now {d : DNet} (h : IsDn n (Lt w.heap.size) w u d) (hb : Below w.heap.size w w') : IsDn n (Lt w'.heap.size) w' u d := by
  obtain ⟨tv, xv, iv, gv, wv, e, h1, h2, h3, h4, h5⟩ := h
  exact ⟨tv, xv, iv, gv, wv, e, h1.now hb, h2.now hb, h3.now hb, SlE.now h4 hb, SlWW.now h5 hb⟩
theorem IsSt.now {s : St} (h : IsSt (Lt w.heap.size) w u s) (hb : Below w.heap.size w w') : IsSt (Lt w'.heap.size) w' u s := by
  obtain ⟨mv, vv, e, h1, h2⟩ := h
  exact ⟨mv, vv, e, h1.now hb, h2.now hb⟩
variable {D : Nat → Prop}
theorem SlWW.at_ {zs : List (List Wr)} {A : Option Addr} {m c k : Nat} (h : SlWW n D w (.slice A m c) zs) (hk : k < m) :
    ∃ b o r v, A = some ⟨b, o, none⟩ ∧ D b ∧ zs[k]? = some r ∧ SlW n D w v r ∧ w.cell? ⟨b, o + k, none⟩ = some v := by
  obtain ⟨b, o, x, u, hA, hD, hx, ⟨u', hu, hf⟩, hc⟩ := Sl.at1 h hk
  injection hu with hu; subst hu
  exact ⟨b, o, x, u, hA, hD, hx, hf, hc⟩
theorem SlSt.at_ {zs : List St} {A : Option Addr} {m c k : Nat} (h : SlSt D w (.slice A m c) zs) (hk : k < m) :
    ∃ b o s mv vv, A = some ⟨b, o, none⟩ ∧ D b ∧ zs[k]? = some s ∧ SlI D w mv s.marks ∧ SlV D w vv s.vals ∧ w.cell? ⟨b, o + k * 2, none⟩ = some mv ∧ w.cell? ⟨b, o + k * 2 + 1, none⟩ = some vv := by
  obtain ⟨b, o, x, u0, u1, hA, hD, hx, ⟨mv, vv, hu, h1, h2⟩, hc0, hc1⟩ := Sl.at2 h hk
  injection hu with e0 hu; injection hu with e1 hu
  subst e0 e1
  exact ⟨b, o, x, u0, u1, hA, hD, hx, h1, h2, hc0, hc1⟩
theorem SlW.at_ {zs : List Wr} {A : Option Addr} {m c k : Nat} (h : SlW n D w (.slice A m c) zs) (hk : k < m) :
    ∃ b o x lv, A = some ⟨b, o, none⟩ ∧ D b ∧ zs[k]? = some x ∧ Fit x.var ∧ IsEx n D w (.agg #[.int .i64 x.x.op, .int .i64 x.x.v.kind, .int .i64 x.x.v.n, .string x.x.v.s, .string x.x.s, lv]) x.x ∧
      w.cell? ⟨b, o + k * 7, none⟩ = some (.int .i64 x.var) ∧ w.cell? ⟨b, o + k * 7 + 1, none⟩ = some (.int .i64 x.x.op) ∧ w.cell? ⟨b, o + k * 7 + 2, none⟩ = some (.int .i64 x.x.v.kind) ∧ w.cell? ⟨b, o + k * 7 + 3, none⟩ = some (.int .i64 x.x.v.n) ∧
      w.cell? ⟨b, o + k * 7 + 4, none⟩ = some (.string x.x.v.s) ∧ w.cell? ⟨b, o + k * 7 + 5, none⟩ = some (.string x.x.s) ∧ w.cell? ⟨b, o + k * 7 + 6, none⟩ = some lv := by
  obtain ⟨A', c', hv, h1, h2, h3⟩ := h
  injection hv with hA hn hc
  subst hA hn hc
  obtain ⟨b, o, cs, hA, hD, hl, ⟨lv, rfl, hf, hx⟩, hcell⟩ := h3 k zs[k] (List.getElem?_eq_getElem hk)
  exact ⟨b, o, zs[k], lv, hA, hD, List.getElem?_eq_getElem hk, hf, hx, hcell 0 _ rfl, hcell 1 _ rfl, hcell 2 _ rfl, hcell 3 _ rfl, hcell 4 _ rfl, hcell 5 _ rfl, hcell 6 _ rfl⟩
end
set_option maxHeartbeats 1000000 in
theorem dtyped_any (n : Nat) (vs : List Var) (x : Ex) (k : Int) (uv u : Value) (w : World) (hv : SlX (Lt w.heap.size) w uv vs) (h : IsEx n (Lt w.heap.size) w u x) (hl : vs.length ≤ 1000000) :
    Calls Tryz.prog 81 #[uv, u, .int .i64 k] w fun e w' => e = .returned (.bool (typedB vs x k)) ∧ Below w.heap.size w w' := by
  have h0 := h
  obtain ⟨lv, rfl, h1, h2, h3, h4⟩ := h
  have hb := bone w (.cells #[.int .i64 x.op, .int .i64 x.v.kind, .int .i64 x.v.n, .string x.v.s, .string x.s, lv] 65)
  have HC := Lib.hid (type_any n vs x _ _ _ (hv.now hb) (h0.now hb) hl)
  have HT : Hid (typedB vs x k = (decide ((givenE vs x).2 = 0) && decide ((givenE vs x).1 = k))) := rfl
  clear h0 hv h4
  generalize givenE vs x = p at *
  obtain ⟨a, z⟩ := p
  dsimp only at *
  go_enter Tryz.func81, Tryz.ntmps81
  go_wp2_with fail
  refine HC.out.mono ?_
  rintro e w1 ⟨rfl, hf, hb1⟩
  have hbw := bthen hb hb1
  by_cases hz : z = 0
  · have b1 : (z == 0) = true := by simp [hz]
    have HR : Hid (typedB vs x k = (a == k)) := by show _ = _; rw [HT.out, decide_eq_true hz, Bool.true_and]; rfl
    clear hz
    go_wp2_with fail
    go_ret
    exact ⟨ret_bool HR.out.symm, hbw⟩
  · have b1 : (z == 0) = false := by simpa using hz
    have HR : Hid (typedB vs x k = false) := by show _ = _; rw [HT.out, decide_eq_false hz]; rfl
    clear hz
    go_wp2_with fail
    go_ret
    exact ⟨ret_bool HR.out.symm, hbw⟩
theorem dassigned_any (vs : List Var) (vals : List Val) (uv vv : Value) (w : World) (hv : SlX (Lt w.heap.size) w uv vs) (hw : SlV (Lt w.heap.size) w vv vals) (hl : vs.length ≤ 1000000) :
    Calls Tryz.prog 78 #[uv, vv] w fun e w' => e = .returned (.bool (asgB vs vals)) ∧ Below w.heap.size w w' := by
  have HC := Lib.hid (inAllE_any vs vals uv vv w hv hw hl)
  have HT : Hid (asgB vs vals = (decide ((inAllE vs vals).2 = 0) && (inAllE vs vals).1)) := rfl
  generalize inAllE vs vals = p at *
  obtain ⟨b, z⟩ := p
  dsimp only at *
  clear hv hw
  go_enter Tryz.func78, Tryz.ntmps78
  go_wp2_with fail
  refine HC.out.mono ?_
  rintro e w1 ⟨rfl, hb1⟩
  by_cases hz : z = 0
  · have b1 : (z == 0) = true := by simp [hz]
    have HR : Hid (asgB vs vals = b) := by show _ = _; rw [HT.out, decide_eq_true hz, Bool.true_and]
    clear hz
    go_wp2_with fail
    go_ret
    exact ⟨ret_bool HR.out.symm, hb1⟩
  · have b1 : (z == 0) = false := by simpa using hz
    have HR : Hid (asgB vs vals = false) := by show _ = _; rw [HT.out, decide_eq_false hz]; rfl
    clear hz
    go_wp2_with fail
    go_ret
    exact ⟨ret_bool HR.out.symm, hb1⟩
end Go.Proofs.YtlmenhjlgmejkaaGreatDoor
