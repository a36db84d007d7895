/- Texts of this seat, merged. -/
import Derived.Test.YtlmenhjlgmejkaaGreatDoorIn25
import Derived.Test.YtlmenhjlgmejkaaGreatDoorIn24
import Derived.Test.YtlmenhjlgmejkaaGreatDoorIn01
import Derived.Orders
import Derived.Deep.Quiet
import Derived.StillTail
import Derived.WalkKit
import Derived.WalkSpells
import Derived.WalkLawsBesides
import Derived.Lib.Hide
import Derived.Deep.Draws
import Derived.Deep.OwnRows
import Derived.Deep.LoopGhost
import Derived.Test.YtlmenhjlgmejkaaGreatDoorIn23
import Derived.Deep.RegionHeld3
import Derived.Deep.DeepCutAuto
import Derived.Test.YtlmenhjlgmejkaaGreatDoorIn22
import Derived.Test.YtlmenhjlgmejkaaGreatDoorIn21
import Derived.Test.YtlmenhjlgmejkaaGreatDoorIn20
import Derived.Test.YtlmenhjlgmejkaaGreatDoorIn19
import Derived.Test.YtlmenhjlgmejkaaGreatDoorIn18
import Derived.Test.YtlmenhjlgmejkaaGreatDoorIn17
import Derived.Test.YtlmenhjlgmejkaaGreatDoorIn16
import Derived.Test.YtlmenhjlgmejkaaGreatDoorIn10
import Derived.Test.YtlmenhjlgmejkaaGreatDoorIn06
import Derived.Test.YtlmenhjlgmejkaaGreatDoorIn05
import Derived.Test.YtlmenhjlgmejkaaGreatDoorIn02
import Derived.Test.YtlmenhjlgmejkaaGreatDoorProg
import Derived.Outline
import Derived.Deep.Light
import Derived.Lib.SlicesCompact
import Derived.Deep.RegionWith
import Derived.Test.YtlmenhjlgmejkaaGreatDoorIn04
import Derived.Deep.QuietTactic
import Derived.BigQuiet
import Derived.Test.YtlmenhjlgmejkaaGreatDoorIn03
import Derived.Shelf.Abstract
import Derived.Laws.IdiomStrings
import Derived.Maps.AppendAt
import Derived.Deep.AppendLies
import Derived.RegionTactic
import Derived.OwnWalk
import Derived.Sort.OwnSorted
import Derived.Lib.Bytes
import Derived.Shelf.Strings.Builder1
import Derived.Shelf.Small.Bits
import Derived.Shelf.Small.Wraps
import Derived.Shelf.Strings.BuilderF
import Derived.Shelf.Strings.BuilderK
import Derived.Shelf.Strconv.Itoa0
import Derived.Shelf.Strconv.Itoa1
import Derived.Shelf.LaysM
import Derived.Shelf.Strconv.Itoa2
import Derived.Shelf.Strconv.Itoa3
import Derived.Shelf.Sort.Plain
import Derived.Shelf.Strings.BuilderCap
import Derived.Shelf.Slices.Turned
import Derived.Shelf.Slices.Reverse
import Derived.Shelf.Slices.Equal
import Derived.Ground.Names2Prog
import Derived.Shelf.Slices.Clone
import Derived.Shelf.Slices.CompactS
import Derived.Shelf.Slices.Cells
import Derived.Shelf.Slices.In.SortNone
import Derived.Shelf.Slices.Empties2
import Derived.Maps.OwnOps
import Derived.Maps.OwnSet
import Derived.Maps.Views
import Derived.StringKeys
import Derived.Lib.Builder
import Derived.Lib.AppendStr
import Derived.Lib.UnsafeStr
import Derived.Lib.FrozenHead2
import Derived.Lib.OthersKept
import Derived.Laws.Externs
import Derived.Lib.Slices
import Derived.Test.YtlmenhjlgmejkaaGreatDoorIn09
import Derived.Test.YtlmenhjlgmejkaaGreatDoorIn08
import Derived.Test.YtlmenhjlgmejkaaGreatDoorIn07
import Derived.Laws.MakeOwn
import Derived.Laws.Entries
import Derived.Test.YtlmenhjlgmejkaaGreatDoorIn15
import Derived.Test.YtlmenhjlgmejkaaGreatDoorIn14
import Derived.Test.YtlmenhjlgmejkaaGreatDoorIn13
import Derived.Test.YtlmenhjlgmejkaaGreatDoorIn12
import Derived.Test.YtlmenhjlgmejkaaGreatDoorIn11
import Derived.StillTailTactics
import Derived.Lib.ItoaNum
import Derived.Lib.ItoaMem
import Derived.Lib.AtoiTie
import Derived.Deep.RegionHeld
import Derived.Maps.Keyed
import Derived.Test.YtlmenhjlgmejkaaGreatDoorIn27
import Derived.Test.YtlmenhjlgmejkaaGreatDoorIn26
import Derived.Test.YtlmenhjlgmejkaaGreatDoorIn29
import Derived.IntWalk
import Derived.Test.YtlmenhjlgmejkaaGreatDoorIn28
import Derived.Test.YtlmenhjlgmejkaaGreatDoorIn32
import Derived.Test.YtlmenhjlgmejkaaGreatDoorRows
import Derived.Test.YtlmenhjlgmejkaaGreatDoorTie
import Derived.Test.YtlmenhjlgmejkaaGreatDoorCards
import Derived.SevenTiedAt
import Derived.LaidLaws
import Derived.Lib.LaidTab
import Derived.Test.YtlmenhjlgmejkaaGreatDoorIn31
import Derived.Test.YtlmenhjlgmejkaaGreatDoorIn30
import Derived.ProofKit
import Derived.Deep.Slices
import Derived.Deep.Fields
import Derived.Deep.Strs
import Derived.ChangeSame
import Derived.Lib.SmallJoins
import Derived.LaidMore
import Derived.OpenShut
import Derived.Stop.Joined
import Derived.Test.YtlmenhjlgmejkaaGreatDoorGu01
import Derived.Test.YtlmenhjlgmejkaaGreatDoorGu02
import Derived.Test.YtlmenhjlgmejkaaGreatDoorGu03
import Derived.Test.YtlmenhjlgmejkaaGreatDoorGu04
import Derived.Test.YtlmenhjlgmejkaaGreatDoorGu05
import Derived.Test.YtlmenhjlgmejkaaGreatDoorGu06
import Derived.Test.YtlmenhjlgmejkaaGreatDoorGu07
import Derived.Test.YtlmenhjlgmejkaaGreatDoorGu08
import Derived.Test.YtlmenhjlgmejkaaGreatDoorGu09
import Derived.Test.YtlmenhjlgmejkaaGreatDoorGu10
import Derived.Test.YtlmenhjlgmejkaaGreatDoorGu11
import Derived.Test.YtlmenhjlgmejkaaGreatDoorGu12
set_option linter.unusedSimpArgs false
set_option linter.unusedVariables false
namespace Go.Proofs.YtlmenhjlgmejkaaGreatDoor
open Go.RowKit
def exV (x : Ex) (lv : Value) : Value := .agg #[.int .i64 x.op, .int .i64 x.v.kind, .int .i64 x.v.n, .string x.v.s, .string x.s, lv]
def gdF (px gv : Value) (k : Nat) (pn ov pk g8p : Value) (x y : Ex) (lv ly : Value) (B j : Nat) (v : Value) (W : World) : Prop := match j with
  | 0 => v = px
  | 1 => v = gv
  | 2 => v = .int .i64 (k : Int)
  | 3 => v = .agg #[.int .i64 x.op, .int .i64 x.v.kind, .int .i64 x.v.n, .string x.v.s, .string x.s, lv]
  | 4 => v = pn
  | 5 => v = ov
  | 6 => v = .int .i64 (k : Int)
  | 7 => v = pk
  | 8 => v = .agg #[.int .i64 y.op, .int .i64 y.v.kind, .int .i64 y.v.n, .string y.v.s, .string y.s, ly]
  | 9 => ∃ h, v = .slice (some ⟨h, 0, none⟩) 2 2 ∧ B ≤ h ∧ Blk W h 65 #[.int .i64 x.op, .int .i64 x.v.kind, .int .i64 x.v.n, .string x.v.s, .string x.s, lv, .int .i64 y.op, .int .i64 y.v.kind, .int .i64 y.v.n, .string y.v.s, .string y.s, ly]
  | 10 => ∃ h, v = .agg #[.int .i64 4, .int .i64 0, .int .i64 0, .string ⟨#[]⟩, .string ⟨#[]⟩, .slice (some ⟨h, 0, none⟩) 2 2] ∧ B ≤ h ∧ Blk W h 65 #[.int .i64 x.op, .int .i64 x.v.kind, .int .i64 x.v.n, .string x.v.s, .string x.s, lv, .int .i64 y.op, .int .i64 y.v.kind, .int .i64 y.v.n, .string y.v.s, .string y.s, ly]
  | 11 => v = g8p
  | _ => True
theorem gdF_now (px gv : Value) (k : Nat) (pn ov pk g8p : Value) (x y : Ex) (lv ly : Value) (B : Nat) : ∀ j v W W', gdF px gv k pn ov pk g8p x y lv ly B j v W → Below W.heap.size W W' → gdF px gv k pn ov pk g8p x y lv ly B j v W' := by
  intro j v W W' h hb
  match j, h with
  | 0, h => exact h
  | 1, h => exact h
  | 2, h => exact h
  | 3, h => exact h
  | 4, h => exact h
  | 5, h => exact h
  | 6, h => exact h
  | 7, h => exact h
  | 8, h => exact h
  | 9, ⟨g, e, hg, h⟩ => exact ⟨g, e, hg, h.now hb⟩
  | 10, ⟨g, e, hg, h⟩ => exact ⟨g, e, hg, h.now hb⟩
  | 11, h => exact h
  | n + 12, h => exact h
theorem bsE2 (a0 a1 a2 : Int) (a3 a4 : ByteArray) (A : Option Addr) (m c : Nat) (b0 b1 b2 : Int) (b3 b4 : ByteArray) (B : Option Addr) (m' c' : Nat) (W : World) : (Instr.buildSlice 27 2 #[(0, .agg #[.int .i64 a0, .int .i64 a1, .int .i64 a2, .string a3, .string a4, .slice A m c]), (1, .agg #[.int .i64 b0, .int .i64 b1, .int .i64 b2, .string b3, .string b4, .slice B m' c'])]).run Tryz.prog W = .ok (.slice (some ⟨W.heap.size, 0, none⟩) 2 2) (W.alloc (.cells #[.int .i64 a0, .int .i64 a1, .int .i64 a2, .string a3, .string a4, .slice A m c, .int .i64 b0, .int .i64 b1, .int .i64 b2, .string b3, .string b4, .slice B m' c'] 65)) := by kernel_rfl
theorem bEx4 (A : Option Addr) (m c : Nat) (W : World) : (Instr.build 65 #[(0, .int .i64 4), (3, .slice A m c)]).run Tryz.prog W = .ok (.agg #[.int .i64 4, .int .i64 0, .int .i64 0, .string ⟨#[]⟩, .string ⟨#[]⟩, .slice A m c]) W := by kernel_rfl
theorem findZ_mem {l : List St} {s : St} (h : s ∈ l) : ¬ findZ l s < 0 := by
  unfold findZ
  cases hx : idxS l s with
  | some k => dsimp only; omega
  | none => exact absurd h (idxS_none hx)
theorem given_no {vs : List Var} {y : Ex} (h : typedB vs y 1 = false) : (givenE vs y).2 ≠ 0 ∨ ((givenE vs y).2 = 0 ∧ (givenE vs y).1 ≠ 1) := by
  unfold typedB at h
  by_cases h2 : (givenE vs y).2 = 0
  · refine .inr ⟨h2, fun e => ?_⟩
    rw [h2, e] at h
    cases h
  · exact .inl h2
set_option maxHeartbeats 32000000 in
set_option maxRecDepth 100000 in
theorem dataGuards_any {n n2 : Nat} (d : DNet) (t : Int) (x : Ex) (most : Int) (u ux : Value) (w : World) (h : IsDn n (Lt w.heap.size) w u d) (ht0 : 0 ≤ t ∧ t < 256) (hx : IsEx n2 (Lt w.heap.size) w ux x) (ha : Amb w) :
    Calls Tryz.prog 6 #[u, .int .u8 t, ux, .int .i64 most] w (RetTrue w) := by
  have h0 := h
  have hx0 := hx
  obtain ⟨At, ct, Ax, cx, iv, Ag, cg, Aw, cw, rfl, dn1, dn2, dn3, dn4, dn5, ⟨t1, t2⟩, ⟨x1, x2⟩, ⟨g1, g2⟩, v1, v2⟩ := h.open_
  obtain ⟨Ai, ci, rfl, _, _, _⟩ := Sl.open_ dn3
  obtain ⟨lv, rfl, f1, f2, f3, Ae, ce, rfl, hlv⟩ := hx
  generalize x.l.length = ne at *
  clear h dn1 dn2 dn3 dn4 dn5 f1 f2 f3 hlv
  have hb0 := bone w (.cells #[.int .i64 d.net.places, .slice At d.net.trans.length ct, .int .i64 d.net.source, .int .i64 d.net.sink, .slice Ax d.vars.length cx, .slice Ai d.init.length ci, .slice Ag d.guards.length cg, .slice Aw d.writes.length cw] 30)
  have hbw1 := bbox hb0 (.cells #[.int .i64 x.op, .int .i64 x.v.kind, .int .i64 x.v.n, .string x.v.s, .string x.s, .slice Ae ne ce] 65)
  have hB1 := (Blk.new w 30 #[.int .i64 d.net.places, .slice At d.net.trans.length ct, .int .i64 d.net.source, .int .i64 d.net.sink, .slice Ax d.vars.length cx, .slice Ai d.init.length ci, .slice Ag d.guards.length cg, .slice Aw d.writes.length cw]).alloc (.cells #[.int .i64 x.op, .int .i64 x.v.kind, .int .i64 x.v.n, .string x.v.s, .string x.s, .slice Ae ne ce] 65)
  have hE1 := (Blk.new_at (t := 65) (cs := #[.int .i64 x.op, .int .i64 x.v.kind, .int .i64 x.v.n, .string x.v.s, .string x.s, .slice Ae ne ce]) (w := w.alloc (.cells #[.int .i64 d.net.places, .slice At d.net.trans.length ct, .int .i64 d.net.source, .int .i64 d.net.sink, .slice Ax d.vars.length cx, .slice Ai d.init.length ci, .slice Ag d.guards.length cg, .slice Aw d.writes.length cw] 30)) (s := w.heap.size + 1) (by simp))
  have hd1 := h0.now hbw1
  have hx1 := hx0.now hbw1
  have ha1 := ha.now hbw1
  clear h0 hx0 ha hb0
  go_enter Tryz.func6, Tryz.ntmps6
  go_upto_region 1 with fail
  generalize hw1e : (w.alloc (.cells #[.int .i64 d.net.places, .slice At d.net.trans.length ct, .int .i64 d.net.source, .int .i64 d.net.sink, .slice Ax d.vars.length cx, .slice Ai d.init.length ci, .slice Ag d.guards.length cg, .slice Aw d.writes.length cw] 30)).alloc (.cells #[.int .i64 x.op, .int .i64 x.v.kind, .int .i64 x.v.n, .string x.v.s, .string x.s, .slice Ae ne ce] 65) = w1 at *
  clear hw1e
  go_wp2_with fail
  refine (awake_any w1 ha1).mono ?_
  rintro e w2 ⟨rfl, hb2⟩
  have hB2 := hB1.now hb2
  have hE2 := hE1.now hb2
  have hd2 := hd1.now hb2
  have hx2 := hx1.now hb2
  have hbw2 := bthen hbw1 hb2
  clear hB1 hE1 hd1 hx1 hbw1
  have ha2 := ha1.now hb2
  clear ha1
  have H2 : Hid (∀ W, Below w2.heap.size w2 W → Blk W w.heap.size 30 #[.int .i64 d.net.places, .slice At d.net.trans.length ct, .int .i64 d.net.source, .int .i64 d.net.sink, .slice Ax d.vars.length cx, .slice Ai d.init.length ci, .slice Ag d.guards.length cg, .slice Aw d.writes.length cw] ∧ Blk W (w.heap.size + 1) 65 #[.int .i64 x.op, .int .i64 x.v.kind, .int .i64 x.v.n, .string x.v.s, .string x.s, .slice Ae ne ce] ∧ IsDn n (Lt W.heap.size) W (.agg #[.int .i64 d.net.places, .slice At d.net.trans.length ct, .int .i64 d.net.source, .int .i64 d.net.sink, .slice Ax d.vars.length cx, .slice Ai d.init.length ci, .slice Ag d.guards.length cg, .slice Aw d.writes.length cw]) d ∧ IsEx n2 (Lt W.heap.size) W (.agg #[.int .i64 x.op, .int .i64 x.v.kind, .int .i64 x.v.n, .string x.v.s, .string x.s, .slice Ae ne ce]) x ∧ Below w.heap.size w W ∧ Amb W) := fun W hW => ⟨hB2.now hW, hE2.now hW, hd2.now hW, hx2.now hW, bthen hbw2 hW, ha2.now hW⟩
  have HX2 := Lib.hid hx2
  have HD2 := Lib.hid hd2
  clear hB2 hE2 hd2 hx2 hbw2 ha2
  have hsz2 : w.heap.size + 2 ≤ w2.heap.size := by have := (H2.out w2 (Below.refl _ _)).2.1.lt; omega
  go_upto_region 4 with fail
  have hb3 := bone w2 (.cells #[.int .i64 100] 3)
  have hG3 := Blk.new w2 3 #[.int .i64 100]
  generalize hw3 : w2.alloc (.cells #[.int .i64 100] 3) = w3 at *
  clear hw3
  obtain ⟨hB3, hE3, hd3, _, hbw3, _⟩ := H2.out w3 hb3
  obtain ⟨q0, q1, q2, q3, q4, q5, q6, q7⟩ := hB3.c8
  obtain ⟨y0, y1, y2, y3, y4, y5⟩ := hE3.c6
  go_wp2_with fail
  refine (few_any n d _ w3 hd3).mono ?_
  rintro e w4 ⟨q, rfl, hq, hb4⟩
  have hb24 := bthen hb3 hb4
  have hG4 := hG3.now hb4
  obtain ⟨hB4, hE4, _, _, hbw4, _⟩ := H2.out w4 hb24
  clear hG3 hb4 hb3 hB3 hE3 hd3 hbw3
  clear q0 q1 q2 q3 q4 q5 q6 q7 y0 y1 y2 y3 y4 y5
  obtain ⟨q0, q1, q2, q3, q4, q5, q6, q7⟩ := hB4.c8
  obtain ⟨y0, y1, y2, y3, y4, y5⟩ := hE4.c6
  cases q
  · go_wp2_with fail
    go_ret
    exact ⟨rfl, hbw4⟩
  have hl : d.vars.length ≤ 1000000 := by have := (hq rfl).2.2.1; omega
  have hT : d.net.trans.length ≤ 16 := (hq rfl).2.1
  have hgl : d.guards.length ≤ 20 := (hq rfl).2.2.2.2.1
  clear hq
  have hx4 : IsEx n2 (Bu w2.heap.size w4) w4 (.agg #[.int .i64 x.op, .int .i64 x.v.kind, .int .i64 x.v.n, .string x.v.s, .string x.s, .slice Ae ne ce]) x := HX2.out.keep (fun b hb => ⟨Nat.lt_of_lt_of_le hb hb24.size, Nat.ne_of_lt hb⟩) (Same.of_below hb24)
  have HSZ := Lib.hid (size_any n2 x _ w4 w2.heap.size 100 0 hx4 hG4 (by decide) (by decide) (by decide) (by decide))
  clear hx4 hG4
  go_wp2_with fail
  refine HSZ.out.mono ?_
  rintro e w5 ⟨q, kk, rfl, hG5, hgr5, _⟩
  have hb5 : Below w2.heap.size w2 w5 := hb24.trans (below_of_grown hgr5 hb24.size (fun g hg => by injection hg with hg; omega))
  obtain ⟨hB5, hE5, hd5, _, hbw5, _⟩ := H2.out w5 hb5
  clear HSZ hG5 hgr5 hB4 hE4 hbw4 hb24
  clear q0 q1 q2 q3 q4 q5 q6 q7 y0 y1 y2 y3 y4 y5
  obtain ⟨q0, q1, q2, q3, q4, q5, q6, q7⟩ := hB5.c8
  obtain ⟨y0, y1, y2, y3, y4, y5⟩ := hE5.c6
  cases q
  · go_wp2_with fail
    go_ret
    exact ⟨rfl, hbw5⟩
  by_cases c1 : most > 60
  · go_wp2_with fail
    go_ret
    exact ⟨rfl, hbw5⟩
  have HVR := Lib.hid (dvalid_ref n d _ w5 hd5)
  go_wp2_with fail
  refine HVR.out.mono ?_
  rintro e w6 ⟨rfl, hb6⟩
  have hb6 := bthen hb5 hb6
  obtain ⟨hB6, hE6, hd6, hx6, hbw6, ha6⟩ := H2.out w6 hb6
  clear HVR hB5 hE5 hd5 hbw5 hb5
  clear q0 q1 q2 q3 q4 q5 q6 q7 y0 y1 y2 y3 y4 y5
  obtain ⟨q0, q1, q2, q3, q4, q5, q6, q7⟩ := hB6.c8
  obtain ⟨y0, y1, y2, y3, y4, y5⟩ := hE6.c6
  cases hv : dvalidB d with
  | false =>
    clear hv
    go_wp2_with fail
    go_ret
    exact ⟨rfl, hbw6⟩
  | true =>
  have HV := Lib.hid hv
  clear hv
  by_cases hg0 : d.guards.length = 0
  · have hg1 : ((d.guards.length : Int) == 0) = true := by simp [hg0]
    clear hg0
    go_wp2_with fail
    go_ret
    exact ⟨rfl, hbw6⟩
  have hg1 : ((d.guards.length : Int) == 0) = false := by simp [hg0]
  have hgp : 0 < d.guards.length := by omega
  have hk0 : t.toNat % d.guards.length < d.guards.length := Nat.mod_lt _ hgp
  have hkz : t % (d.guards.length : Int) = ((t.toNat % d.guards.length : Nat) : Int) := by
    rw [Int.natCast_emod, Int.toNat_of_nonneg ht0.1]
  obtain ⟨ht1, ht2⟩ := ht0
  clear hg0
  generalize hkd : t.toNat % d.guards.length = k at *
  clear hkd
  obtain ⟨b, o, y, ly, n', rfl, rfl, hDg, hy, hiy, _, _, g0, g1_, g2_, g3, g4, g5⟩ := SlE.at_ (dn_parts HD2.out).2.2.2.1 hk0
  obtain ⟨Ay, ny, cy, rfl⟩ : ∃ A n c, ly = .slice A n c := by obtain ⟨_, e, _, _, _, A, c, e2, _⟩ := hiy; simp only [Value.agg.injEq, Array.mk.injEq, List.cons.injEq, and_true, true_and] at e; subst e; exact ⟨_, _, _, e2⟩
  have HGK : Hid (∀ W, Below w2.heap.size w2 W → W.cell? ⟨b, o + k * 6, none⟩ = some (.int .i64 y.op) ∧ W.cell? ⟨b, o + k * 6 + 1, none⟩ = some (.int .i64 y.v.kind) ∧ W.cell? ⟨b, o + k * 6 + 2, none⟩ = some (.int .i64 y.v.n) ∧ W.cell? ⟨b, o + k * 6 + 3, none⟩ = some (.string y.v.s) ∧ W.cell? ⟨b, o + k * 6 + 4, none⟩ = some (.string y.s) ∧ W.cell? ⟨b, o + k * 6 + 5, none⟩ = some (.slice Ay ny cy)) := fun W hW => ⟨(hW.cell (p := ⟨b, _, none⟩) hDg).trans g0, (hW.cell (p := ⟨b, _, none⟩) hDg).trans g1_, (hW.cell (p := ⟨b, _, none⟩) hDg).trans g2_, (hW.cell (p := ⟨b, _, none⟩) hDg).trans g3, (hW.cell (p := ⟨b, _, none⟩) hDg).trans g4, (hW.cell (p := ⟨b, _, none⟩) hDg).trans g5⟩
  have RB := Lib.hid (rex_of_is hiy)
  have HY := Lib.hid hy
  clear hy hiy g0 g1_ g2_ g3 g4 g5
  go_upto_region 7 with fail
  have hb7 := bone w6 (.cells #[.int .i64 d.net.places, .slice At d.net.trans.length ct, .int .i64 d.net.source, .int .i64 d.net.sink, .slice Ax d.vars.length cx, .slice Ai d.init.length ci, .slice (some ⟨b, o, none⟩) d.guards.length cg, .slice Aw d.writes.length cw] 30)
  have hX7 := Blk.new w6 30 #[.int .i64 d.net.places, .slice At d.net.trans.length ct, .int .i64 d.net.source, .int .i64 d.net.sink, .slice Ax d.vars.length cx, .slice Ai d.init.length ci, .slice (some ⟨b, o, none⟩) d.guards.length cg, .slice Aw d.writes.length cw]
  have hX6 : w2.heap.size ≤ w6.heap.size := hb6.size
  generalize hw7 : w6.alloc (.cells #[.int .i64 d.net.places, .slice At d.net.trans.length ct, .int .i64 d.net.source, .int .i64 d.net.sink, .slice Ax d.vars.length cx, .slice Ai d.init.length ci, .slice (some ⟨b, o, none⟩) d.guards.length cg, .slice Aw d.writes.length cw] 30) = w7 at *
  clear hw7
  have hsz7 := hX7.lt
  have hb7 := bthen hb6 hb7
  clear hB6 hE6 hd6 hx6 hbw6 ha6
  obtain ⟨hB7, hE7, hd7, hx7, hbw7, ha7⟩ := H2.out w7 hb7
  clear q0 q1 q2 q3 q4 q5 q6 q7 y0 y1 y2 y3 y4 y5
  obtain ⟨q0, q1, q2, q3, q4, q5, q6, q7⟩ := hB7.c8
  obtain ⟨y0, y1, y2, y3, y4, y5⟩ := hE7.c6
  have HCL := Lib.hid (cloneE _ _ d.guards w2 w7 (dn_parts HD2.out).2.2.2.1 hb7 (by omega))
  go_wp2_with fail
  refine HCL.out.mono ?_
  rintro e w8 ⟨v8, rows, rfl, ho8, hrl, hrr, hb8⟩
  obtain ⟨g8, cap8, rfl, hg8, hg8'⟩ := World.ownsRow.form ho8 (by omega)
  have hX8 := hX7.now hb8
  have hb8' := bthen hb7 hb8
  clear HCL hB7 hE7 hd7 hx7 hbw7 ha7 hX7 hb7
  clear q0 q1 q2 q3 q4 q5 q6 q7 y0 y1 y2 y3 y4 y5
  obtain ⟨p0, p1, p2, p3, p4, p5, p6, p7⟩ := hX8.c8
  have p6f := hX8.frozen 6
  rw [hrl] at ho8 ⊢
  go_upto_region 9 with fail
  have hX9 : Blk (w8.setCell ⟨w6.heap.size, 6, none⟩ (.slice (some ⟨g8, 0, none⟩) d.guards.length cap8)) w6.heap.size 30 #[.int .i64 d.net.places, .slice At d.net.trans.length ct, .int .i64 d.net.source, .int .i64 d.net.sink, .slice Ax d.vars.length cx, .slice Ai d.init.length ci, .slice (some ⟨g8, 0, none⟩) d.guards.length cap8, .slice Aw d.writes.length cw] := hX8.set_ 6 (.slice (some ⟨g8, 0, none⟩) d.guards.length cap8)
  have ho9 := ownsRow_setCell_other ho8 (a := ⟨w6.heap.size, 6, none⟩) (fun e => by injection e with e; have e : g8 = w6.heap.size := e; omega) (.slice (some ⟨g8, 0, none⟩) d.guards.length cap8)
  have hb9 : Below w2.heap.size w2 (w8.setCell ⟨w6.heap.size, 6, none⟩ (.slice (some ⟨g8, 0, none⟩) d.guards.length cap8)) := hb8'.setCell (p := ⟨w6.heap.size, 6, none⟩) hX6 _
  generalize hw9 : w8.setCell ⟨w6.heap.size, 6, none⟩ (.slice (some ⟨g8, 0, none⟩) d.guards.length cap8) = w9 at *
  have hg9 : g8 < w9.heap.size := by rw [← hw9]; simpa using hg8'
  clear hw9 p0 p1 p2 p3 p4 p5 p6 p7 p6f hX8 ho8 hb8 hb8' hg8'
  have ho9 : OwnW 6 cellsRaw w9 w7.heap.size 65 (.slice (some ⟨g8, 0, none⟩) rows.length cap8) rows := by rw [hrl]; unfold OwnW; exact ho9
  have hgX : g8 ≠ w6.heap.size := by omega
  have hg2 : w2.heap.size ≤ g8 := by omega
  have HXB : Hid (∀ W, Below w9.heap.size w9 W → Blk W w6.heap.size 30 #[.int .i64 d.net.places, .slice At d.net.trans.length ct, .int .i64 d.net.source, .int .i64 d.net.sink, .slice Ax d.vars.length cx, .slice Ai d.init.length ci, .slice (some ⟨g8, 0, none⟩) d.guards.length cap8, .slice Aw d.writes.length cw]) := fun W hW => hX9.now hW
  have HO : Hid (∀ W, Below w9.heap.size w9 W → OwnW 6 cellsRaw W w7.heap.size 65 (.slice (some ⟨g8, 0, none⟩) rows.length cap8) rows) := fun W hW => own_now ho9 hW
  have HRR := Lib.hid hrr
  have hkl1 : (k : Int) < (d.guards.length : Int) := by omega
  have hkl2 : (0 : Int) ≤ (k : Int) := by omega
  clear hrr hX9 ho9
  go_cut [] (fun W => Blk W w6.heap.size 30 #[.int .i64 d.net.places, .slice At d.net.trans.length ct, .int .i64 d.net.source, .int .i64 d.net.sink, .slice Ax d.vars.length cx, .slice Ai d.init.length ci, .slice (some ⟨g8, 0, none⟩) d.guards.length cap8, .slice Aw d.writes.length cw] ∧ Below w2.heap.size w2 W ∧ SlE (n' + 1 + n2 + 1 + 1) (Lt W.heap.size) W (.slice (some ⟨g8, 0, none⟩) d.guards.length cap8) (d.guards.set k (andX x y)))
  case first =>
    rename_i J1 K1 hJ hK
    refine wp_region_make (by kernel_rfl) 12 (by kernel_rfl) (by kernel_rfl) (by kernel_rfl) (by kernel_rfl) (gdF (.pointer (some ⟨w6.heap.size, 6, none⟩)) (.slice (some ⟨g8, 0, none⟩) d.guards.length cap8) k (.pointer (some ⟨w.heap.size, 6, none⟩)) (.slice (some ⟨b, o, none⟩) d.guards.length cg) (.pointer (some ⟨b, o + k * 6, none⟩)) (.pointer (some ⟨g8, k * 6, none⟩)) x y (.slice Ae ne ce) (.slice Ay ny cy) w9.heap.size) (gdF_now _ _ _ _ _ _ _ _ _ _ _ _) ?hall ?hstep ?hlast
    case hall => exact hall_of (by kernel_rfl)
    case hlast =>
      intro o ho a W hk hb hF
      injection ho with ho
      subst ho
      obtain ⟨h, e10, hh, hH⟩ := (show gdF (.pointer (some ⟨w6.heap.size, 6, none⟩)) (.slice (some ⟨g8, 0, none⟩) d.guards.length cap8) k (.pointer (some ⟨w.heap.size, 6, none⟩)) (.slice (some ⟨b, o, none⟩) d.guards.length cg) (.pointer (some ⟨b, o + k * 6, none⟩)) (.pointer (some ⟨g8, k * 6, none⟩)) x y (.slice Ae ne ce) (.slice Ay ny cy) w9.heap.size 10 (Act.slot a 76) W from hF 10 (by decide))
      have e11 := (show gdF (.pointer (some ⟨w6.heap.size, 6, none⟩)) (.slice (some ⟨g8, 0, none⟩) d.guards.length cap8) k (.pointer (some ⟨w.heap.size, 6, none⟩)) (.slice (some ⟨b, o, none⟩) d.guards.length cg) (.pointer (some ⟨b, o + k * 6, none⟩)) (.pointer (some ⟨g8, k * 6, none⟩)) x y (.slice Ae ne ce) (.slice Ay ny cy) w9.heap.size 11 (Act.slot a 77) W from hF 11 (by decide))
      have hbW : Below w9.heap.size w9 W := (Below.refl _ _).drew.trans hb
      have hoW := HO.out W hbW
      obtain ⟨v0, v1, v2, v3, v4, v5, c0, c1, c2, c3, c4, c5, hfz, _⟩ := put6_cells hoW (k := k) (by omega)
      have hbF : Below w2.heap.size w2 W := hb9.trans (hbW.mono hb9.size)
      have hsl := stronger_sl (N := n' + 1 + n2 + 1) (B := w2.heap.size) (W0 := w2) (W := W) (gs := d.guards) (k := k) (a := x) (b := y) (h := h) (ca := [.int .i64 x.op, .int .i64 x.v.kind, .int .i64 x.v.n, .string x.v.s, .string x.s, .slice Ae ne ce]) (cb := [.int .i64 y.op, .int .i64 y.v.kind, .int .i64 y.v.n, .string y.v.s, .string y.s, .slice Ay ny cy]) hbF hoW hrl (fun i z r h1 h2 => RExN.up _ _ (by omega) _ _ _ _ (HRR.out i z r h1 h2)) hg2 (Nat.le_refl _) hk0 hH (by omega) (RExN.up _ _ (by omega) _ _ _ _ (rex_of_is HX2.out)) (RExN.up _ _ (by omega) _ _ _ _ RB.out)
      have hXF := put6_far (k := k) (u0 := .int .i64 4) (u1 := .int .i64 0) (u2 := .int .i64 0) (u3 := .string ⟨#[]⟩) (u4 := .string ⟨#[]⟩) (u5 := .slice (some ⟨h, 0, none⟩) 2 2) (g := g8) (HXB.out W hbW) (Ne.symm hgX)
      have hbP := put6_below (k := k) (u0 := .int .i64 4) (u1 := .int .i64 0) (u2 := .int .i64 0) (u3 := .string ⟨#[]⟩) (u4 := .string ⟨#[]⟩) (u5 := .slice (some ⟨h, 0, none⟩) 2 2) (g := g8) hbF hg2
      refine wpM_store 65 (.tmp 77) (.tmp 76) _ _ (put6 W g8 k (.int .i64 4) (.int .i64 0) (.int .i64 0) (.string ⟨#[]⟩) (.string ⟨#[]⟩) (.slice (some ⟨h, 0, none⟩) 2 2)) () rfl e11 e10 (by simp [go_sem, c0, c1, c2, c3, c4, c5, hfz, put6]; try rfl) ⟨_, rfl, fun a'' hk'' hs => ?_⟩
      refine hK _ _ ?_
      rw [hk''.form (by kernel_rfl)]
      simp only [putsAll, Option.getD_some, Act.put, List.setIfInBounds_toArray, List.set_cons_zero, List.set_cons_succ]
      go_meet
      exact ⟨hXF, hbP, hsl⟩
    case hstep =>
      refine ⟨fun a W hk hb hd => ?_, ?_⟩
      · show Oper.wp _ _ a W _ _
        have k10 : a.eval (.tmp 10) = .pointer (some ⟨w6.heap.size, 0, none⟩) := hk.same (s := 10) (by kernel_rfl)
        refine wpM_field _ _ _ _ _ rfl k10 (by simp [go_sem]; rfl) ⟨_, rfl, Below.refl _ _, ?_⟩
        exact rfl
      refine ⟨fun a W hk hb hd => ?_, ?_⟩
      · show Oper.wp _ _ a W _ _
        have e0 : a.eval (.tmp 66) = .pointer (some ⟨w6.heap.size, 6, none⟩) := (show gdF (.pointer (some ⟨w6.heap.size, 6, none⟩)) (.slice (some ⟨g8, 0, none⟩) d.guards.length cap8) k (.pointer (some ⟨w.heap.size, 6, none⟩)) (.slice (some ⟨b, o, none⟩) d.guards.length cg) (.pointer (some ⟨b, o + k * 6, none⟩)) (.pointer (some ⟨g8, k * 6, none⟩)) x y (.slice Ae ne ce) (.slice Ay ny cy) w9.heap.size 0 (Act.slot a 66) W from hd 0 (by kernel_rfl))
        obtain ⟨p0, p1, p2, p3, p4, p5, p6, p7⟩ := (HXB.out W ((Below.refl _ _).drew.trans hb)).c8
        refine wpM_load _ _ _ (.slice (some ⟨g8, 0, none⟩) d.guards.length cap8) rfl e0 (by simp [go_sem, p6]) ⟨_, rfl, Below.refl _ _, ?_⟩
        exact rfl
      refine ⟨fun a W hk hb hd => ?_, ?_⟩
      · show Oper.wp _ _ a W _ _
        have k11 : a.eval (.tmp 11) = .int .i64 (k : Int) := hk.same (s := 11) (by kernel_rfl)
        refine wpM_move _ _ rfl k11 ⟨_, rfl, Below.refl _ _, ?_⟩
        exact rfl
      refine ⟨fun a W hk hb hd => ?_, ?_⟩
      · show Oper.wp _ _ a W _ _
        have k6 : a.eval (.tmp 6) = .pointer (some ⟨w.heap.size + 1, 0, none⟩) := hk.same (s := 6) (by kernel_rfl)
        obtain ⟨y0, y1, y2, y3, y4, y5⟩ := (H2.out W (hb9.trans (((Below.refl _ _).drew.trans hb).mono hb9.size))).2.1.c6
        refine wpM_load _ _ _ (.agg #[.int .i64 x.op, .int .i64 x.v.kind, .int .i64 x.v.n, .string x.v.s, .string x.s, .slice Ae ne ce]) rfl k6 (by simp [go_sem, y0, y1, y2, y3, y4, y5]; try rfl) ⟨_, rfl, Below.refl _ _, ?_⟩
        exact rfl
      refine ⟨fun a W hk hb hd => ?_, ?_⟩
      · show Oper.wp _ _ a W _ _
        have k4 : a.eval (.tmp 4) = .pointer (some ⟨w.heap.size, 0, none⟩) := hk.same (s := 4) (by kernel_rfl)
        refine wpM_field _ _ _ _ _ rfl k4 (by simp [go_sem]; rfl) ⟨_, rfl, Below.refl _ _, ?_⟩
        exact rfl
      refine ⟨fun a W hk hb hd => ?_, ?_⟩
      · show Oper.wp _ _ a W _ _
        have e4 : a.eval (.tmp 70) = .pointer (some ⟨w.heap.size, 6, none⟩) := (show gdF (.pointer (some ⟨w6.heap.size, 6, none⟩)) (.slice (some ⟨g8, 0, none⟩) d.guards.length cap8) k (.pointer (some ⟨w.heap.size, 6, none⟩)) (.slice (some ⟨b, o, none⟩) d.guards.length cg) (.pointer (some ⟨b, o + k * 6, none⟩)) (.pointer (some ⟨g8, k * 6, none⟩)) x y (.slice Ae ne ce) (.slice Ay ny cy) w9.heap.size 4 (Act.slot a 70) W from hd 4 (by kernel_rfl))
        obtain ⟨q0, q1, q2, q3, q4, q5, q6, q7⟩ := (H2.out W (hb9.trans (((Below.refl _ _).drew.trans hb).mono hb9.size))).1.c8
        refine wpM_load _ _ _ (.slice (some ⟨b, o, none⟩) d.guards.length cg) rfl e4 (by simp [go_sem, q6]) ⟨_, rfl, Below.refl _ _, ?_⟩
        exact rfl
      refine ⟨fun a W hk hb hd => ?_, ?_⟩
      · show Oper.wp _ _ a W _ _
        have k11 : a.eval (.tmp 11) = .int .i64 (k : Int) := hk.same (s := 11) (by kernel_rfl)
        refine wpM_move _ _ rfl k11 ⟨_, rfl, Below.refl _ _, ?_⟩
        exact rfl
      refine ⟨fun a W hk hb hd => ?_, ?_⟩
      · show Oper.wp _ _ a W _ _
        have e5 : a.eval (.tmp 71) = .slice (some ⟨b, o, none⟩) d.guards.length cg := (show gdF (.pointer (some ⟨w6.heap.size, 6, none⟩)) (.slice (some ⟨g8, 0, none⟩) d.guards.length cap8) k (.pointer (some ⟨w.heap.size, 6, none⟩)) (.slice (some ⟨b, o, none⟩) d.guards.length cg) (.pointer (some ⟨b, o + k * 6, none⟩)) (.pointer (some ⟨g8, k * 6, none⟩)) x y (.slice Ae ne ce) (.slice Ay ny cy) w9.heap.size 5 (Act.slot a 71) W from hd 5 (by kernel_rfl))
        have e6 : a.eval (.tmp 72) = .int .i64 (k : Int) := (show gdF (.pointer (some ⟨w6.heap.size, 6, none⟩)) (.slice (some ⟨g8, 0, none⟩) d.guards.length cap8) k (.pointer (some ⟨w.heap.size, 6, none⟩)) (.slice (some ⟨b, o, none⟩) d.guards.length cg) (.pointer (some ⟨b, o + k * 6, none⟩)) (.pointer (some ⟨g8, k * 6, none⟩)) x y (.slice Ae ne ce) (.slice Ay ny cy) w9.heap.size 6 (Act.slot a 72) W from hd 6 (by kernel_rfl))
        refine wpM_run (.pointer (some ⟨b, o + k * 6, none⟩)) W (by simp only [execOp, e5, e6]; simp [go_sem, hkl1, hkl2]; try rfl) ⟨_, rfl, Below.refl _ _, ?_⟩
        exact rfl
      refine ⟨fun a W hk hb hd => ?_, ?_⟩
      · show Oper.wp _ _ a W _ _
        have e7 : a.eval (.tmp 73) = .pointer (some ⟨b, o + k * 6, none⟩) := (show gdF (.pointer (some ⟨w6.heap.size, 6, none⟩)) (.slice (some ⟨g8, 0, none⟩) d.guards.length cap8) k (.pointer (some ⟨w.heap.size, 6, none⟩)) (.slice (some ⟨b, o, none⟩) d.guards.length cg) (.pointer (some ⟨b, o + k * 6, none⟩)) (.pointer (some ⟨g8, k * 6, none⟩)) x y (.slice Ae ne ce) (.slice Ay ny cy) w9.heap.size 7 (Act.slot a 73) W from hd 7 (by kernel_rfl))
        obtain ⟨c0, c1, c2, c3, c4, c5⟩ := HGK.out W (hb9.trans (((Below.refl _ _).drew.trans hb).mono hb9.size))
        refine wpM_load _ _ _ (.agg #[.int .i64 y.op, .int .i64 y.v.kind, .int .i64 y.v.n, .string y.v.s, .string y.s, .slice Ay ny cy]) rfl e7 (by simp [go_sem, c0, c1, c2, c3, c4, c5]; try rfl) ⟨_, rfl, Below.refl _ _, ?_⟩
        exact rfl
      refine ⟨fun a W hk hb hd => ?_, ?_⟩
      · show Oper.wp _ _ a W _ _
        have e3 : a.eval (.tmp 69) = .agg #[.int .i64 x.op, .int .i64 x.v.kind, .int .i64 x.v.n, .string x.v.s, .string x.s, .slice Ae ne ce] := (show gdF (.pointer (some ⟨w6.heap.size, 6, none⟩)) (.slice (some ⟨g8, 0, none⟩) d.guards.length cap8) k (.pointer (some ⟨w.heap.size, 6, none⟩)) (.slice (some ⟨b, o, none⟩) d.guards.length cg) (.pointer (some ⟨b, o + k * 6, none⟩)) (.pointer (some ⟨g8, k * 6, none⟩)) x y (.slice Ae ne ce) (.slice Ay ny cy) w9.heap.size 3 (Act.slot a 69) W from hd 3 (by kernel_rfl))
        have e8 : a.eval (.tmp 74) = .agg #[.int .i64 y.op, .int .i64 y.v.kind, .int .i64 y.v.n, .string y.v.s, .string y.s, .slice Ay ny cy] := (show gdF (.pointer (some ⟨w6.heap.size, 6, none⟩)) (.slice (some ⟨g8, 0, none⟩) d.guards.length cap8) k (.pointer (some ⟨w.heap.size, 6, none⟩)) (.slice (some ⟨b, o, none⟩) d.guards.length cg) (.pointer (some ⟨b, o + k * 6, none⟩)) (.pointer (some ⟨g8, k * 6, none⟩)) x y (.slice Ae ne ce) (.slice Ay ny cy) w9.heap.size 8 (Act.slot a 74) W from hd 8 (by kernel_rfl))
        refine wpM_slice _ _ _ _ _ _ rfl ?_ (bsE2 x.op x.v.kind x.v.n x.v.s x.s Ae ne ce y.op y.v.kind y.v.n y.v.s y.s Ay ny cy W) ⟨_, rfl, bone _ _, ?_⟩
        · simp [e3, e8]
        · exact ⟨_, rfl, hb.size, Blk.new _ _ _⟩
      refine ⟨fun a W hk hb hd => ?_, ?_⟩
      · show Oper.wp _ _ a W _ _
        obtain ⟨h, e9, hh, hH⟩ := (show gdF (.pointer (some ⟨w6.heap.size, 6, none⟩)) (.slice (some ⟨g8, 0, none⟩) d.guards.length cap8) k (.pointer (some ⟨w.heap.size, 6, none⟩)) (.slice (some ⟨b, o, none⟩) d.guards.length cg) (.pointer (some ⟨b, o + k * 6, none⟩)) (.pointer (some ⟨g8, k * 6, none⟩)) x y (.slice Ae ne ce) (.slice Ay ny cy) w9.heap.size 9 (Act.slot a 75) W from hd 9 (by kernel_rfl))
        have e9' : a.eval (.tmp 75) = .slice (some ⟨h, 0, none⟩) 2 2 := e9
        refine wpM_build _ _ _ _ rfl ?_ (bEx4 (some ⟨h, 0, none⟩) 2 2 W) ⟨_, rfl, Below.refl _ _, ?_⟩
        · simp [e9', evalC]
        · exact ⟨h, rfl, hh, hH⟩
      refine ⟨fun a W hk hb hd => ?_, trivial⟩
      · show Oper.wp _ _ a W _ _
        have e1 : a.eval (.tmp 67) = .slice (some ⟨g8, 0, none⟩) d.guards.length cap8 := (show gdF (.pointer (some ⟨w6.heap.size, 6, none⟩)) (.slice (some ⟨g8, 0, none⟩) d.guards.length cap8) k (.pointer (some ⟨w.heap.size, 6, none⟩)) (.slice (some ⟨b, o, none⟩) d.guards.length cg) (.pointer (some ⟨b, o + k * 6, none⟩)) (.pointer (some ⟨g8, k * 6, none⟩)) x y (.slice Ae ne ce) (.slice Ay ny cy) w9.heap.size 1 (Act.slot a 67) W from hd 1 (by kernel_rfl))
        have e2 : a.eval (.tmp 68) = .int .i64 (k : Int) := (show gdF (.pointer (some ⟨w6.heap.size, 6, none⟩)) (.slice (some ⟨g8, 0, none⟩) d.guards.length cap8) k (.pointer (some ⟨w.heap.size, 6, none⟩)) (.slice (some ⟨b, o, none⟩) d.guards.length cg) (.pointer (some ⟨b, o + k * 6, none⟩)) (.pointer (some ⟨g8, k * 6, none⟩)) x y (.slice Ae ne ce) (.slice Ay ny cy) w9.heap.size 2 (Act.slot a 68) W from hd 2 (by kernel_rfl))
        refine wpM_run (.pointer (some ⟨g8, k * 6, none⟩)) W (by simp only [execOp, e1, e2]; simp [go_sem, hkl1, hkl2]; try rfl) ⟨_, rfl, Below.refl _ _, ?_⟩
        exact rfl
  case rest =>
  obtain ⟨hX10, hb10, hsl10⟩ := hcut
  obtain ⟨dp1, dp2, dp3, dp4, dp5⟩ := dn_parts (H2.out wc hb10).2.2.1
  have hdx10 : IsDn (n' + 1 + n2 + 1 + 1) (Lt wc.heap.size) wc (.agg #[.int .i64 d.net.places, .slice At d.net.trans.length ct, .int .i64 d.net.source, .int .i64 d.net.sink, .slice Ax d.vars.length cx, .slice Ai d.init.length ci, .slice (some ⟨g8, 0, none⟩) d.guards.length cap8, .slice Aw d.writes.length cw]) (stronger d k (andX x y)) := ⟨_, _, _, _, _, rfl, dp1, dp2, dp3, hsl10, SlWW.up (by omega) dp5⟩
  have H10 : Hid (∀ W, Below wc.heap.size wc W → Blk W w.heap.size 30 #[.int .i64 d.net.places, .slice At d.net.trans.length ct, .int .i64 d.net.source, .int .i64 d.net.sink, .slice Ax d.vars.length cx, .slice Ai d.init.length ci, .slice (some ⟨b, o, none⟩) d.guards.length cg, .slice Aw d.writes.length cw] ∧ IsDn (n' + 1) (Lt W.heap.size) W (.agg #[.int .i64 d.net.places, .slice At d.net.trans.length ct, .int .i64 d.net.source, .int .i64 d.net.sink, .slice Ax d.vars.length cx, .slice Ai d.init.length ci, .slice (some ⟨b, o, none⟩) d.guards.length cg, .slice Aw d.writes.length cw]) d ∧ Blk W w6.heap.size 30 #[.int .i64 d.net.places, .slice At d.net.trans.length ct, .int .i64 d.net.source, .int .i64 d.net.sink, .slice Ax d.vars.length cx, .slice Ai d.init.length ci, .slice (some ⟨g8, 0, none⟩) d.guards.length cap8, .slice Aw d.writes.length cw] ∧ IsDn (n' + 1 + n2 + 1 + 1) (Lt W.heap.size) W (.agg #[.int .i64 d.net.places, .slice At d.net.trans.length ct, .int .i64 d.net.source, .int .i64 d.net.sink, .slice Ax d.vars.length cx, .slice Ai d.init.length ci, .slice (some ⟨g8, 0, none⟩) d.guards.length cap8, .slice Aw d.writes.length cw]) (stronger d k (andX x y)) ∧ Below w.heap.size w W ∧ Amb W) := fun W hW => by
    obtain ⟨f1, _, f3, _, f5, f6⟩ := H2.out W (hb10.trans (hW.mono hb10.size))
    exact ⟨f1, f3, hX10.now hW, hdx10.now hW, f5, f6⟩
  have HST := Lib.hid (stronger_valid (y := andX x y) HV.out hk0)
  have hk1 : k < (stronger d k (andX x y)).guards.length := by unfold stronger; simpa using hk0
  clear HXB HO HRR hdx10 hsl10 dp1 dp2 dp3 dp4 dp5 H2 HX2 HD2 RB HGK hb9 hrl
  generalize hwc : wc = w10 at *
  clear hwc
  obtain ⟨r0, r1, r2, r3, r4, r5, r6, r7⟩ := hX10.c8
  have HVX := Lib.hid (dvalid_any _ _ _ w10 (H10.out w10 (Below.refl _ _)).2.2.2.1 hl)
  have HEQ := Lib.hid (rfl : stronger d k (andX x y) = stronger d k (andX x y))
  generalize hdx : stronger d k (andX x y) = dx at *
  have HDX := Lib.hid hdx
  clear hdx HEQ
  go_wp2_with fail
  refine HVX.out.mono ?_
  rintro e w11 ⟨rfl, hb11⟩
  clear HVX r0 r1 r2 r3 r4 r5 r6 r7 hX10
  obtain ⟨hB11, hd11, hX11, hdx11, hbw11, ha11⟩ := H10.out w11 hb11
  cases hv2 : dvalidB dx with
  | false =>
    have hty : typedB d.vars (andX x y) 1 = false := by rw [← HST.out]; exact hv2
    obtain ⟨bz, oz, z, lz, nn, hnn, hAz, hDz, hz, hiz, _, _, c0, c1, c2, c3, c4, c5⟩ := SlE.at_ (dn_parts hdx11).2.2.2.1 hk0
    simp only [Option.some.injEq, Addr.mk.injEq, and_true] at hAz
    obtain ⟨hA1, hA2⟩ := hAz
    subst hA1 hA2
    rw [Nat.zero_add] at c0 c1 c2 c3 c4 c5
    have hzz : andX x y = z := by
      rw [← HDX.out] at hz
      unfold stronger at hz
      rw [List.getElem?_set_self hk0] at hz
      injection hz
    rw [hzz] at hty
    have HG := Lib.hid (given_no hty)
    obtain ⟨Az, nz, cz, rfl⟩ : ∃ A n c, lz = .slice A n c := by obtain ⟨_, e, _, _, _, A, c, e2, _⟩ := hiz; simp only [Value.agg.injEq, Array.mk.injEq, List.cons.injEq, and_true, true_and] at e; subst e; exact ⟨_, _, _, e2⟩
    have HS : Hid (∀ W, Below w11.heap.size w11 W → W.cell? ⟨w.heap.size, 4, none⟩ = some (.slice Ax d.vars.length cx) ∧ W.cell? ⟨w6.heap.size, 6, none⟩ = some (.slice (some ⟨g8, 0, none⟩) d.guards.length cap8) ∧ W.cell? ⟨g8, k * 6, none⟩ = some (.int .i64 z.op) ∧ W.cell? ⟨g8, k * 6 + 1, none⟩ = some (.int .i64 z.v.kind) ∧ W.cell? ⟨g8, k * 6 + 2, none⟩ = some (.int .i64 z.v.n) ∧ W.cell? ⟨g8, k * 6 + 3, none⟩ = some (.string z.v.s) ∧ W.cell? ⟨g8, k * 6 + 4, none⟩ = some (.string z.s) ∧ W.cell? ⟨g8, k * 6 + 5, none⟩ = some (.slice Az nz cz)) := fun W hW => ⟨(hB11.now hW).c8.2.2.2.2.1, (hX11.now hW).c8.2.2.2.2.2.2.1, (hW.cell (p := ⟨g8, _, none⟩) hDz).trans c0, (hW.cell (p := ⟨g8, _, none⟩) hDz).trans c1, (hW.cell (p := ⟨g8, _, none⟩) hDz).trans c2, (hW.cell (p := ⟨g8, _, none⟩) hDz).trans c3, (hW.cell (p := ⟨g8, _, none⟩) hDz).trans c4, (hW.cell (p := ⟨g8, _, none⟩) hDz).trans c5⟩
    have HCT : Hid (∀ W, Below w11.heap.size w11 W → Calls Tryz.prog 29 #[.slice Ax d.vars.length cx, .agg #[.int .i64 z.op, .int .i64 z.v.kind, .int .i64 z.v.n, .string z.v.s, .string z.s, .slice Az nz cz]] W fun e w' => e = .returned (.tuple #[.int .i64 (givenE d.vars z).1, .int .i64 (givenE d.vars z).2]) ∧ Below w11.heap.size w11 w') := fun W hW => (typed_ref _ d.vars z _ _ W ((dn_parts (hd11.now hW)).2.1) (hiz.now hW)).mono fun e w' ⟨he, _, hb'⟩ => ⟨he, bthen hW hb'⟩
    clear hz hzz hty hiz c0 c1 c2 c3 c4 c5 hv2 hd11 hdx11 ha11
    generalize givenE d.vars z = ge at *
    obtain ⟨gk, gc⟩ := ge
    dsimp only at HCT HG
    go_upto_region 11 with fail
    go_cut [12, 13] (fun s12 s13 W => s12 = .int .i64 gk ∧ s13 = .int .i64 gc ∧ Below w11.heap.size w11 W)
    case first =>
      have hbd : Below w11.heap.size w11 w11.drew := (Below.refl _ _).drew
      obtain ⟨a0, a1, d0, d1, d2, d3, d4, d5⟩ := HS.out _ hbd
      go_region_held3 (fun W => W.cell? ⟨w.heap.size, 4, none⟩ = some (.slice Ax d.vars.length cx) ∧ W.cell? ⟨w6.heap.size, 6, none⟩ = some (.slice (some ⟨g8, 0, none⟩) d.guards.length cap8) ∧ W.cell? ⟨g8, k * 6, none⟩ = some (.int .i64 z.op) ∧ W.cell? ⟨g8, k * 6 + 1, none⟩ = some (.int .i64 z.v.kind) ∧ W.cell? ⟨g8, k * 6 + 2, none⟩ = some (.int .i64 z.v.n) ∧ W.cell? ⟨g8, k * 6 + 3, none⟩ = some (.string z.v.s) ∧ W.cell? ⟨g8, k * 6 + 4, none⟩ = some (.string z.s) ∧ W.cell? ⟨g8, k * 6 + 5, none⟩ = some (.slice Az nz cz)) (first | exact HS.out _ (by assumption))
        (first | (go_at_call 29; (with_reducible refine (HCT.out _ (by assumption)).mono ?_); rintro e wt ⟨rfl, hbt⟩))
      all_goals (go_wp2_with fail; go_meet)
      all_goals exact ⟨rfl, rfl, by assumption⟩
    case rest =>
      obtain ⟨rfl, rfl, hb12⟩ := hcut
      have hbw12 := bthen hbw11 hb12
      clear HS HCT
      rcases HG.out with h1 | ⟨h1, h2⟩
      · have d1 : (gc != 0) = true := by simpa using h1
        clear h1
        go_wp2_with fail
        go_ret
        exact ⟨rfl, hbw12⟩
      · have d1 : (gc != 0) = false := by simp [h1]
        have d2 : (gk != 1) = true := by simpa using h2
        clear h1 h2
        go_wp2_with fail
        go_ret
        exact ⟨rfl, hbw12⟩
  | true =>
    have HV2 := Lib.hid hv2
    have his := init_state HV.out
    have hvs1 : vstateB d (firstS d) = true := by unfold vstateB; rw [HV.out, Bool.true_and]; exact his
    have hvs2 : vstateB dx (firstS d) = true := by unfold vstateB; rw [HV2.out, Bool.true_and, ← HDX.out]; exact his
    have HV1 := Lib.hid hvs1
    have HVB := Lib.hid hvs2
    have HIS : Hid (stateB d (firstS d) = true) := his
    have hTx : dx.net.trans.length ≤ 16 := by rw [← HDX.out]; exact hT
    have hlx : dx.vars.length ≤ 1000000 := by rw [← HDX.out]; exact hl
    have HIN := dinit_any _ d _ w11 hd11 hl
    rw [show dinitE d = (firstS d, 0) from by unfold dinitE; rw [HV.out]; rfl] at HIN
    have HIN := Lib.hid HIN
    clear hv2 his hvs1 hvs2
    obtain ⟨q0, q1, q2, q3, q4, q5, q6, q7⟩ := hB11.c8
    go_wp2_with fail
    refine HIN.out.mono ?_
    rintro e w12 ⟨fv, rfl, hfv, hb12⟩
    obtain ⟨Af, cf, Bf, df, rfl, _, _, ⟨_, _⟩, _, _⟩ := hfv.open_
    have hb13 := bone w12 (.cells #[.slice Af (firstS d).marks.length cf, .slice Bf (firstS d).vals.length df] 33)
    have hF13 := Blk.new w12 33 #[.slice Af (firstS d).marks.length cf, .slice Bf (firstS d).vals.length df]
    have hfv13 := hfv.now hb13
    have hb13 := bthen (bthen hb11 hb12) hb13
    dsimp only at hfv13 ⊢
    clear HIN hfv hb12 hB11 hd11 hX11 hdx11 hbw11 ha11 q0 q1 q2 q3 q4 q5 q6 q7
    go_upto_region 14 with fail
    obtain ⟨gF, hgF⟩ : ∃ z, z = w12.heap.size := ⟨_, rfl⟩
    rw [← hgF] at hF13 ⊢
    generalize hw13 : w12.alloc (.cells #[.slice Af (firstS d).marks.length cf, .slice Bf (firstS d).vals.length df] 33) = w13 at *
    clear hw13 hgF
    obtain ⟨hB13, hd13, hX13, hdx13, hbw13, ha13⟩ := H10.out w13 hb13
    obtain ⟨q0, q1, q2, q3, q4, q5, q6, q7⟩ := hB13.c8
    obtain ⟨y0, y1⟩ := hF13.c2
    have HE1 := Lib.hid (dexplore_any _ d (firstS d) most _ _ w13 hd13 hfv13 hl ha13)
    go_wp2_with fail
    refine HE1.out.mono ?_
    rintro e w14 ⟨sv1, mv1, rfl, hsv1, _, hb14⟩
    have hF14 := hF13.now hb14
    have hfv14 := hfv13.now hb14
    have hb14 := bthen hb13 hb14
    clear HE1 hB13 hd13 hX13 hdx13 hbw13 ha13 hF13 hfv13 hb13 q0 q1 q2 q3 q4 q5 q6 q7 y0 y1
    obtain ⟨hB14, hd14, hX14, hdx14, hbw14, ha14⟩ := H10.out w14 hb14
    obtain ⟨q0, q1, q2, q3, q4, q5, q6, q7⟩ := hX14.c8
    obtain ⟨y0, y1⟩ := hF14.c2
    have HE2 := Lib.hid (dexplore_any _ dx (firstS d) most _ _ w14 hdx14 hfv14 hlx ha14)
    go_wp2_with fail
    refine HE2.out.mono ?_
    rintro e w15 ⟨sv2, mv2, rfl, hsv2, hmv2, hb15⟩
    have hF15 := hF14.now hb15
    have hfv15 := hfv14.now hb15
    have hsv1 := hsv1.now hb15
    have hb15 := bthen hb14 hb15
    clear HE2 hB14 hd14 hX14 hdx14 hbw14 ha14 hF14 hfv14 hb14 q0 q1 q2 q3 q4 q5 q6 q7 y0 y1
    obtain ⟨hB15, hd15, _, _, hbw15, _⟩ := H10.out w15 hb15
    rcases expl_code HV1.out (show most ≤ 60 by omega) hT with ⟨m1, m2⟩ | ⟨m1, p, m2, m3⟩
    · rcases expl_code HVB.out (show most ≤ 60 by omega) hTx with ⟨m4, m5⟩ | ⟨m4, _⟩
      · rw [m2, m5]
        rw [m2] at hsv1
        rw [m5] at hsv2 hmv2
        clear m1 m2 m4 m5
        go_wp2_with fail
        go_ret
        exact ⟨rfl, hbw15⟩
      · omega
    rcases expl_code HVB.out (show most ≤ 60 by omega) hTx with ⟨m4, _⟩ | ⟨m4, q, m5, m6⟩
    · omega
    rw [m3, m6]
    rw [m3] at hsv1
    rw [m6] at hsv2 hmv2
    have M2 := Lib.hid m2
    have M5 := Lib.hid m5
    dsimp only at hsv1 hsv2 hmv2 ⊢
    have HM1 := Lib.hid m1
    clear m1 m2 m3 m4 m5 m6
    cases hpf : p.full with
    | false =>
      clear hpf
      go_wp2_with fail
      go_ret
      exact ⟨rfl, hbw15⟩
    | true =>
    cases hqf : q.full with
    | false =>
      clear hqf
      go_wp2_with fail
      go_ret
      exact ⟨rfl, hbw15⟩
    | true =>
    have hws := weaker_space (n := d) (k := k) (a := x) (b := y) (s0 := firstS d) (most := most.toNat) (p := p) (q := q) HV.out HY.out (by rw [HDX.out]; exact HV2.out) HIS.out (by have := HM1.out; omega) M2.out (by rw [HDX.out]; exact M5.out) hpf
    obtain ⟨ws1, ws2, ws3, ws4⟩ := hws
    have WS1 := Lib.hid ws1
    have WS3 := Lib.hid ws3
    have WS4 := Lib.hid ws4
    have hq0 : 0 < q.states.length := lt_of_get ws3
    have hq1 : ((q.states.length : Int) == 0) = false := by rw [beq_eq_false_iff_ne]; omega
    clear ws1 ws3 ws4 hpf hqf M2 M5
    obtain ⟨As, cs, rfl, _, _, hsv2⟩ := Sl.open_ hsv2
    have hsv2 : SlSt (Lt w15.heap.size) w15 (.slice As q.states.length cs) q.states := hsv2
    obtain ⟨Am, cm, rfl, _, _, hmv2⟩ := hmv2.open_
    obtain ⟨Ap, cp, rfl, _, _, hsv1⟩ := Sl.open_ hsv1
    have hsv1 : SlSt (Lt w15.heap.size) w15 (.slice Ap p.states.length cp) p.states := hsv1
    go_wp2_with fail
    clear hq1
    go_loopw [143] (fun i wr => ∃ j : Nat, j ≤ q.states.length ∧ i = .int .i64 j ∧ Below w15.heap.size w15 wr) (fun i _ => q.states.length - (intOf i).toNat)
    case atStart => exact ⟨0, Nat.zero_le _, rfl, Below.refl _ _⟩
    case round =>
      obtain ⟨j, hj, rfl, hbr⟩ := hrel
      by_cases hlt : j < q.states.length
      · obtain ⟨bs, os, z, mv, vv, rfl, hDs, hz, hm, hv, c0, c1⟩ := (hsv2.now hbr).at_ hlt
        obtain ⟨A1, c1', rfl, _, _, hm⟩ := hm.open_
        obtain ⟨A2, c2', rfl, _, _, hv⟩ := hv.open_
        have hin := WS1.out z (List.mem_of_getElem? hz)
        have hb2 := bone wr (.cells #[.slice A1 z.marks.length c1', .slice A2 z.vals.length c2'] 33)
        have hY := Blk.new wr 33 #[.slice A1 z.marks.length c1', .slice A2 z.vals.length c2']
        have hbr2 := hbr.trans (hb2.mono hbr.size)
        have HFD := Lib.hid (find30_ref p.states z _ _ _ ((hsv1.now hbr).now hb2) ⟨_, _, rfl, hm.now hb2, hv.now hb2⟩)
        have hfz := findZ_mem hin
        have i1 : (0 : Int) ≤ (j : Int) := by omega
        have i2 : (j : Int) < (q.states.length : Int) := by omega
        clear hz hm hv hin hDs
        go_upto_region 25 with fail
        generalize hw2 : wr.alloc (.cells #[.slice A1 z.marks.length c1', .slice A2 z.vals.length c2'] 33) = wq at *
        clear hw2 hb2 c0 c1
        obtain ⟨y0, y1⟩ := hY.c2
        generalize findZ p.states z = fz at *
        go_wp2_with fail
        refine HFD.out.mono ?_
        rintro e w4 ⟨rfl, hb4⟩
        go_wp2_with fail
        go_roundw
        case rel => exact ⟨j + 1, by omega, by go_num, hbr2.trans (hb4.mono hbr2.size)⟩
        case measure => simp [intOf]; omega
      · obtain rfl : j = q.states.length := by omega
        have hsv1r := hsv1.now hbr
        have hsv2r := hsv2.now hbr
        have hmv2r := hmv2.now hbr
        have hF16 := hF15.now hbr
        have hfv16 := hfv15.now hbr
        have hd16 := hd15.now hbr
        have hB16 := hB15.now hbr
        have hbw16 := bthen hbw15 hbr
        clear hlt hbr hsv1 hsv2 hmv2 hF15 hfv15 hd15 hB15 hbw15
        generalize hw16 : wr = w16 at *
        clear hw16
        go_wp2_with fail
        go_loopw [154] (fun i wr => ∃ j : Nat, j ≤ q.moves.length ∧ i = .int .i64 j ∧ Below w16.heap.size w16 wr) (fun i _ => q.moves.length - (intOf i).toNat)
        case atStart => exact ⟨0, Nat.zero_le _, rfl, Below.refl _ _⟩
        case round =>
          obtain ⟨j, hj, rfl, hbr⟩ := hrel
          by_cases hlt : j < q.moves.length
          · obtain ⟨bm, om, m, rfl, hDm, hm, _, c0, c1, c2⟩ := (hmv2r.now hbr).at_ hlt
            obtain ⟨hms, hz4⟩ := WS4.out m (List.mem_of_getElem? hm)
            have HZ4 := Lib.hid hz4
            clear hz4
            have hb2 := bone wr (.cells #[.int .i64 (m.src : Int), .int .i64 (m.dst : Int), .int .i64 (m.sym : Int)] 73)
            have hY := Blk.new wr 73 #[.int .i64 (m.src : Int), .int .i64 (m.dst : Int), .int .i64 (m.sym : Int)]
            have hbr2 := hbr.trans (hb2.mono hbr.size)
            have hlen2 : ¬ (q.states.length : Int) ≤ (m.src : Int) := by omega
            have hneg : ¬ (m.src : Int) < 0 := by omega
            clear hm hDm
            go_upto_region 31 with fail
            obtain ⟨gM, hgM⟩ : ∃ z, z = wr.heap.size := ⟨_, rfl⟩
            rw [← hgM] at hY ⊢
            generalize hw2 : wr.alloc (.cells #[.int .i64 (m.src : Int), .int .i64 (m.dst : Int), .int .i64 (m.sym : Int)] 73) = wq at *
            clear hw2 hb2 c0 c1 c2 hgM hbr
            obtain ⟨z, hz, hzs, hzf⟩ := HZ4.out
            obtain ⟨bs, os, z', mv, vv, rfl, hDs, hz', hm, hv, e0, e1⟩ := (hsv2r.now hbr2).at_ hms
            obtain rfl : z = z' := by rw [hz] at hz'; injection hz'
            obtain ⟨A1, c1, rfl, _, _, hm⟩ := hm.open_
            obtain ⟨A2, c2, rfl, _, _, hv⟩ := hv.open_
            have hvz : vstateB d z = true := by unfold vstateB; rw [HV.out, Bool.true_and]; exact hzs
            have HZF := Lib.hid hzf
            have HCE : Hid (∀ W, Below wq.heap.size wq W → Calls Tryz.prog 31 #[.agg #[.int .i64 d.net.places, .slice At d.net.trans.length ct, .int .i64 d.net.source, .int .i64 d.net.sink, .slice Ax d.vars.length cx, .slice Ai d.init.length ci, .slice (some ⟨b, o, none⟩) d.guards.length cg, .slice Aw d.writes.length cw], .agg #[.slice A1 z.marks.length c1, .slice A2 z.vals.length c2]] W fun e w' => ∃ A c, e = .returned (.tuple #[.slice A (firesTo d z d.net.trans.length).length c, .int .i64 0]) ∧ SlI (Lt w'.heap.size) w' (.slice A (firesTo d z d.net.trans.length).length c) (firesTo d z d.net.trans.length) ∧ Below wq.heap.size wq w') := fun W hW => by
              have hde := denabled_any _ d z _ _ W ((hd16.now hbr2).now hW) ⟨_, _, rfl, hm.now hW, hv.now hW⟩ hl
              rw [show denE d z = (firesTo d z d.net.trans.length, 0) from by unfold denE; rw [if_pos hvz]] at hde
              refine hde.mono ?_
              rintro e w' ⟨v, rfl, hs, hb'⟩
              obtain ⟨A, c, rfl, _, _, hs⟩ := hs.open_
              exact ⟨A, c, rfl, hs, bthen hW hb'⟩
            have HS : Hid (∀ W, Below wq.heap.size wq W → W.cell? ⟨w.heap.size, 0, none⟩ = some (.int .i64 d.net.places) ∧ W.cell? ⟨w.heap.size, 1, none⟩ = some (.slice At d.net.trans.length ct) ∧ W.cell? ⟨w.heap.size, 2, none⟩ = some (.int .i64 d.net.source) ∧ W.cell? ⟨w.heap.size, 3, none⟩ = some (.int .i64 d.net.sink) ∧ W.cell? ⟨w.heap.size, 4, none⟩ = some (.slice Ax d.vars.length cx) ∧ W.cell? ⟨w.heap.size, 5, none⟩ = some (.slice Ai d.init.length ci) ∧ W.cell? ⟨w.heap.size, 6, none⟩ = some (.slice (some ⟨b, o, none⟩) d.guards.length cg) ∧ W.cell? ⟨w.heap.size, 7, none⟩ = some (.slice Aw d.writes.length cw) ∧ W.cell? ⟨gM, 0, none⟩ = some (.int .i64 (m.src : Int)) ∧ W.cell? ⟨bs, os + m.src * 2, none⟩ = some (.slice A1 z.marks.length c1) ∧ W.cell? ⟨bs, os + m.src * 2 + 1, none⟩ = some (.slice A2 z.vals.length c2)) := fun W hW => ⟨((hB16.now hbr2).now hW).c8.1, ((hB16.now hbr2).now hW).c8.2.1, ((hB16.now hbr2).now hW).c8.2.2.1, ((hB16.now hbr2).now hW).c8.2.2.2.1, ((hB16.now hbr2).now hW).c8.2.2.2.2.1, ((hB16.now hbr2).now hW).c8.2.2.2.2.2.1, ((hB16.now hbr2).now hW).c8.2.2.2.2.2.2.1, ((hB16.now hbr2).now hW).c8.2.2.2.2.2.2.2, (hY.now hW).c3.1, (hW.cell (p := ⟨bs, _, none⟩) hDs).trans e0, (hW.cell (p := ⟨bs, _, none⟩) hDs).trans e1⟩
            obtain ⟨u0, u1, u2⟩ := hY.c3
            have i1 : (0 : Int) ≤ (m.src : Int) := by omega
            have i2 : (m.src : Int) < (q.states.length : Int) := by omega
            clear hz hz' hzs hzf hm hv hvz e0 e1 HZ4
            generalize firesTo d z d.net.trans.length = L at *
            go_upto_region 33 with fail
            clear u0 u1 u2
            go_cut [28, 29] (fun s28 s29 W => ∃ A c, s28 = .slice A L.length c ∧ s29 = .int .i64 0 ∧ SlI (Lt W.heap.size) W (.slice A L.length c) L ∧ Below wq.heap.size wq W)
            case first =>
              have hbd : Below wq.heap.size wq wq.drew := (Below.refl _ _).drew
              obtain ⟨a0, a1, a2, a3, a4, a5, a6, a7, d0, d1, d2⟩ := HS.out _ hbd
              go_region_held3 (fun W => W.cell? ⟨w.heap.size, 0, none⟩ = some (.int .i64 d.net.places) ∧ W.cell? ⟨w.heap.size, 1, none⟩ = some (.slice At d.net.trans.length ct) ∧ W.cell? ⟨w.heap.size, 2, none⟩ = some (.int .i64 d.net.source) ∧ W.cell? ⟨w.heap.size, 3, none⟩ = some (.int .i64 d.net.sink) ∧ W.cell? ⟨w.heap.size, 4, none⟩ = some (.slice Ax d.vars.length cx) ∧ W.cell? ⟨w.heap.size, 5, none⟩ = some (.slice Ai d.init.length ci) ∧ W.cell? ⟨w.heap.size, 6, none⟩ = some (.slice (some ⟨b, o, none⟩) d.guards.length cg) ∧ W.cell? ⟨w.heap.size, 7, none⟩ = some (.slice Aw d.writes.length cw) ∧ W.cell? ⟨gM, 0, none⟩ = some (.int .i64 (m.src : Int)) ∧ W.cell? ⟨bs, os + m.src * 2, none⟩ = some (.slice A1 z.marks.length c1) ∧ W.cell? ⟨bs, os + m.src * 2 + 1, none⟩ = some (.slice A2 z.vals.length c2)) (first | exact HS.out _ (by assumption))
                (first | (go_at_call 31; (with_reducible refine (HCE.out _ (by assumption)).mono ?_); rintro e wt ⟨At', ct', rfl, hst, hbt⟩))
              all_goals (go_wp2_with fail; go_meet)
              all_goals exact ⟨_, _, rfl, rfl, by assumption, by assumption⟩
            case rest =>
              obtain ⟨AL, cL, rfl, rfl, hL, hbt⟩ := hcut
              clear HS HCE
              have hbr3 := hbr2.trans (hbt.mono hbr2.size)
              obtain ⟨u0, u1, u2⟩ := (hY.now hbt).c3
              have HCI := containsI _ L (m.sym : Int) _ hL
              rw [show L.contains (m.sym : Int) = true from by simpa using HZF.out] at HCI
              have HCI := Lib.hid HCI
              go_wp2_with fail
              refine HCI.out.mono ?_
              rintro e w' ⟨rfl, rfl⟩
              go_wp2_with fail
              go_roundw
              case rel => exact ⟨j + 1, by omega, by go_num, hbr3⟩
              case measure => simp [intOf]; omega
          · obtain rfl : j = q.moves.length := by omega
            obtain ⟨bs, os, z, mv, vv, rfl, hDs, hz, hm, hv, e0, e1⟩ := (hsv2r.now hbr).at_ hq0
            obtain rfl : z = firstS d := by rw [WS3.out] at hz; injection hz with hz; exact hz.symm
            obtain ⟨A1, c1, rfl, _, _, hm⟩ := hm.open_
            obtain ⟨A2, c2, rfl, _, _, hv⟩ := hv.open_
            rw [Nat.zero_mul, Nat.add_zero] at e0 e1
            have hfvr := hfv16.now hbr
            have hbwr := bthen hbw16 hbr
            have HCA : Hid (∀ W, Below wr.heap.size wr W → Calls Tryz.prog 33 #[.slice Af (firstS d).marks.length cf, .slice A1 (firstS d).marks.length c1] W fun e w' => e = .returned (.bool true) ∧ Below wr.heap.size wr w') := fun W hW => by
              obtain ⟨_, _, e, s1, _⟩ := hfvr.now hW
              simp only [Value.agg.injEq, Array.mk.injEq, List.cons.injEq, and_true] at e
              obtain ⟨rfl, rfl⟩ := e
              refine (sameM_ref _ _ _ _ W s1 (hm.now hW)).mono ?_
              rintro e w' ⟨rfl, n, rfl⟩
              exact ⟨by rw [beq_self_eq_true], bdrawn hW n⟩
            have HCB : Hid (∀ W, Below wr.heap.size wr W → Calls Tryz.prog 34 #[.slice Bf (firstS d).vals.length df, .slice A2 (firstS d).vals.length c2] W fun e w' => e = .returned (.bool true) ∧ Below wr.heap.size wr w') := fun W hW => by
              obtain ⟨_, _, e, _, s2⟩ := hfvr.now hW
              simp only [Value.agg.injEq, Array.mk.injEq, List.cons.injEq, and_true] at e
              obtain ⟨rfl, rfl⟩ := e
              refine (same_ref _ _ _ _ W s2 (hv.now hW)).mono ?_
              rintro e w' ⟨rfl, hb'⟩
              exact ⟨by rw [decide_eq_true rfl], bthen hW hb'⟩
            have HS : Hid (∀ W, Below wr.heap.size wr W → W.cell? ⟨gF, 0, none⟩ = some (.slice Af (firstS d).marks.length cf) ∧ W.cell? ⟨gF, 1, none⟩ = some (.slice Bf (firstS d).vals.length df) ∧ W.cell? ⟨bs, os, none⟩ = some (.slice A1 (firstS d).marks.length c1) ∧ W.cell? ⟨bs, os + 1, none⟩ = some (.slice A2 (firstS d).vals.length c2)) := fun W hW => ⟨((hF16.now hbr).now hW).c2.1, ((hF16.now hbr).now hW).c2.2, (hW.cell (p := ⟨bs, _, none⟩) hDs).trans e0, (hW.cell (p := ⟨bs, _, none⟩) hDs).trans e1⟩
            have i1 : (q.states.length : Int) ≤ (p.states.length : Int) := by omega
            have i2 : (0 : Int) < (q.states.length : Int) := by omega
            have hd1 : decide ((q.states.length : Int) ≤ (p.states.length : Int)) = true := by simpa using ws2
            clear hz hm hv e0 e1 hfvr
            go_upto_region 37 with fail
            have hbd : Below wr.heap.size wr wr.drew := (Below.refl _ _).drew
            obtain ⟨a0, a1, d0, d1⟩ := HS.out _ hbd
            go_region_held3 (fun W => W.cell? ⟨gF, 0, none⟩ = some (.slice Af (firstS d).marks.length cf) ∧ W.cell? ⟨gF, 1, none⟩ = some (.slice Bf (firstS d).vals.length df) ∧ W.cell? ⟨bs, os, none⟩ = some (.slice A1 (firstS d).marks.length c1) ∧ W.cell? ⟨bs, os + 1, none⟩ = some (.slice A2 (firstS d).vals.length c2)) (first | exact HS.out _ (by assumption))
              (first | (go_at_call 33; (with_reducible refine (HCA.out _ (by assumption)).mono ?_); rintro e wa ⟨rfl, hba⟩) | (go_at_call 34; (with_reducible refine (HCB.out _ (by assumption)).mono ?_); rintro e wb ⟨rfl, hbb⟩))
            all_goals (go_wp2_with fail; go_ret)
            all_goals exact ⟨rfl, bthen hbwr (by assumption)⟩
end Go.Proofs.YtlmenhjlgmejkaaGreatDoor

namespace Go.Proofs.YtlmenhjlgmejkaaGreatDoor
open Go.ChangeShapes Go.WideShapes Go.RowKit Go.Deep
theorem readEx : Tryz.prog.readableRec 65 = true := by kernel_rfl
theorem rowEx : 65 < Tryz.prog.types.size := of_decide_eq_true (by kernel_rfl)
section
variable {H : Type} {enc : TypeId × Value → H} {w : World} {base : Nat} {spare : Nat → Bool} {held : Bool}
set_option maxRecDepth 100000 in
theorem ex_of {r : Go.Reach} {b0 : Nat} {v : Value} {dd : DataW H} {p : List MemPlace} (hv : Value.okWide Tryz.prog w r b0 65 v) (h : DataW.Trod enc Tryz.prog w base spare held 65 v dd p) : ∃ (n : Nat) (x : Ex), IsEx n (Lt w.heap.size) w v x := by
  obtain ⟨cs, rfl, hsz⟩ := okWide_struct Tryz.underlying65 hv
  rw [cellsExpr] at hsz
  obtain ⟨fuel, hf⟩ := h
  obtain ⟨l⟩ := cs
  match l, hsz with
  | [c0, c1, c2, c3, c4, c5], _ =>
    obtain ⟨x, hx⟩ := exCells_of (fuel + 1) fuel (by omega) _ _ hf
    obtain ⟨lv, ec, h1, h2, h3, h4⟩ := hx
    simp only [Value.cells] at ec
    injection ec with e0 ec; injection ec with e1 ec; injection ec with e2 ec; injection ec with e3 ec; injection ec with e4 ec; injection ec with e5 _
    subst e0 e1 e2 e3 e4 e5
    exact ⟨fuel, x, _, rfl, h1, h2, h3, h4⟩
end
theorem dataGuards_law {n n2 : Nat} (d : DNet) (t : Int) (x : Ex) (most : Int) (u ux : Value) (w : World) (h : IsDn n (Lt w.heap.size) w u d) (ht : (Lit.int .u8 t).wf = true) (hx : IsEx n2 (Lt w.heap.size) w ux x) (ha : Amb w) :
    Calls Tryz.prog 6 #[u, .int .u8 t, ux, .int .i64 most] w (RetTrue w) := by
  obtain ⟨h0, h1⟩ := byte_of_wf ht
  exact dataGuards_any d t x most u ux w h ⟨h0, by omega⟩ hx ha
end Go.Proofs.YtlmenhjlgmejkaaGreatDoor
