/- Texts of this seat, merged. -/
import Derived.Test.YtoalecalahkblaaGreatDoorRows
import Derived.Test.YtoalecalahkblaaGreatDoorTie
import Derived.Test.YtoalecalahkblaaGreatDoorCards
import Derived.SevenTiedAt
import Derived.LaidLaws
import Derived.Lib.LaidTab
import Derived.Lay
import Derived.MakeChecks
import Derived.Shelf.Vars
import Derived.Test.YtoalecalahkblaaGreatDoorIy24
import Derived.ProofKit
import Derived.Deep.Slices
import Derived.Deep.Fields
import Derived.Deep.Strs
import Derived.ChangeSame
import Derived.Lib.SmallJoins
import Derived.LaidMore
import Derived.OpenShut
import Derived.Stop.Joined
import Derived.WalkKit
import Derived.WalkSpells
import Derived.WalkLawsBesides
import Derived.Lib.Hide
import Derived.Deep.Draws
import Derived.Deep.OwnRows
import Derived.Test.YtoalecalahkblaaGreatDoorIy01
import Derived.Lib.AtoiErrMem
import Derived.Shelf.Strconv.ErrVarAll
import Derived.Test.YtoalecalahkblaaGreatDoorIy05
import Derived.Shelf.Strings.Builder1
import Derived.Shelf.Strings.Builder2
import Derived.Shelf.Small.Bits
import Derived.Shelf.Small.Strs
import Derived.Shelf.Small.Wraps
import Derived.Shelf.Strings.BuilderF
import Derived.Shelf.Strings.BuilderK
import Derived.Shelf.Strings.Builder2Cap
import Derived.Shelf.Strconv.Atoi
import Derived.Shelf.Strconv.Itoa0
import Derived.Shelf.Strconv.Itoa1
import Derived.Shelf.LaysM
import Derived.Shelf.Strconv.Itoa2
import Derived.Shelf.Strconv.Itoa3
import Derived.Shelf.Strconv.AtoiErrFast
import Derived.Shelf.Strconv.ParseIntEmpty
import Derived.Shelf.Strconv.AtoiFail
import Derived.Shelf.Strconv.Clone
import Derived.Shelf.Strconv.SyntaxError
import Derived.Shelf.LaysC
import Derived.Shelf.Strconv.ToError
import Derived.Shelf.Strconv.Lower
import Derived.Shelf.Strconv.ParseUint10
import Derived.Shelf.Strconv.ParseUint10Empty
import Derived.Shelf.Strconv.ParseUint10Any
import Derived.Shelf.Strconv.ParseInt10
import Derived.Shelf.Strconv.AtoiLong
import Derived.Shelf.Strconv.AtoiInnerAll
import Derived.Shelf.Strconv.RangeError
import Derived.Shelf.Strconv.ToErrorRange
import Derived.Shelf.Strconv.AtoiAll
import Derived.Shelf.Strings.Search1
import Derived.Shelf.Strings.Search2
import Derived.Shelf.Strings.Search3
import Derived.Shelf.Strings.Count
import Derived.Shelf.Strings.Shaped
import Derived.Shelf.Sort.Plain
import Derived.Shelf.Strings.Prefix
import Derived.Shelf.Strings.Split
import Derived.Shelf.Strings.Replace
import Derived.Shelf.Strings.SplitShaped
import Derived.Shelf.Unicode.DecodeSlow
import Derived.Shelf.Strings.BuilderCap
import Derived.Shelf.Slices.Turned
import Derived.Ground.Names2Prog
import Derived.Shelf.Slices.Clone
import Derived.Shelf.Slices.CompactS
import Derived.Shelf.Slices.SearchI
import Derived.Shelf.Slices.Cells
import Derived.Shelf.Slices.In.SortNone
import Derived.Ground.SlgnProg
import Derived.Shelf.SlicesE.Compact
import Derived.Shelf.SlicesE.Clone
import Derived.Ground.SlgfProg
import Derived.Shelf.SlicesE.IndexFunc
import Derived.Shelf.SlicesE.DeleteFunc
import Derived.Test.YtoalecalahkblaaGreatDoorProg
import Derived.Maps.AppendAt
import Derived.Deep.AppendLies
import Derived.RegionTactic
import Derived.OwnWalk
import Derived.Test.YtoalecalahkblaaGreatDoorIy03
import Derived.Test.YtoalecalahkblaaGreatDoorIy02
import Derived.Test.YtoalecalahkblaaGreatDoorIy23
import Derived.BigQuiet
import Derived.Test.YtoalecalahkblaaGreatDoorIy20
import Derived.Test.YtoalecalahkblaaGreatDoorIy19
import Derived.Test.YtoalecalahkblaaGreatDoorIy18
import Derived.Deep.CutRange
import Derived.Deep.CutBlock
import Derived.Test.YtoalecalahkblaaGreatDoorIy17
import Derived.Outline
import Derived.Shelf.Abstract
import Derived.Laws.IdiomStrings
import Derived.Deep.Light
import Derived.Lib.SlicesCompact
import Derived.Lib.Builder
import Derived.Lib.AppendStr
import Derived.Lib.UnsafeStr
import Derived.Lib.FrozenHead2
import Derived.Lib.OthersKept
import Derived.Laws.Externs
import Derived.Test.YtoalecalahkblaaGreatDoorIy16
import Derived.Lib.ItoaNum
import Derived.Lib.ItoaMem
import Derived.Lib.AtoiTie
import Derived.Test.YtoalecalahkblaaGreatDoorIy12
import Derived.Shelf.SlSortCmp.WholeK
import Derived.Shelf.SlSortCmp.NoneTotal
import Derived.Shelf.SlSortCmp.InsertionK
import Derived.Ground.SlsfProg
import Derived.Sort.WalkA
import Derived.Sort.LotA
import Derived.Sort.OwnSorted
import Derived.Lib.Bytes
import Derived.Test.YtoalecalahkblaaGreatDoorIy04
import Derived.StillTailTactics
import Derived.Deep.QuietTactic
import Derived.Lib.OwnKind
import Derived.Laws.BytesString
import Derived.Lib.Strings
import Derived.Test.YtoalecalahkblaaGreatDoorIy14
import Derived.Test.YtoalecalahkblaaGreatDoorIy11
import Derived.Test.YtoalecalahkblaaGreatDoorIy07
import Derived.Test.YtoalecalahkblaaGreatDoorIy06
import Derived.Test.YtoalecalahkblaaGreatDoorIy09
import Derived.Test.YtoalecalahkblaaGreatDoorIy13
import Derived.Orders
import Derived.Deep.Quiet
import Derived.StillTail
import Derived.Deep.RegionHeld
import Derived.Deep.RegionHeld3
import Derived.Test.YtoalecalahkblaaGreatDoorIy10
import Derived.Test.YtoalecalahkblaaGreatDoorIy08
import Derived.Laws.MakeOwn
import Derived.Laws.Entries
import Derived.Test.YtoalecalahkblaaGreatDoorIy22
import Derived.Test.YtoalecalahkblaaGreatDoorIy21
import Derived.Shelf.SlSortCmp.KitK
import Derived.Test.YtoalecalahkblaaGreatDoorIz01
import Derived.Test.YtoalecalahkblaaGreatDoorIz02
set_option linter.all false
namespace Go.Proofs.YtoalecalahkblaaGreatDoor
open Go.ChangeShapes Go.WideShapes Go.ChangeAt Go.RowKit Go.Deep
section
variable {H : Type} {enc : TypeId × Value → H} {P : Program} {w : World} {base : Nat} {spare : Nat → Bool} {held : Bool}
theorem Sl.of_trodN {α : Type} [Inhabited α] {size : Nat} {R : ElemR α} {t e : TypeId} {fuel : Nat} {v : Value} {x : DataW H × List MemPlace} (ht : P.underlying t = some (.slice e)) (hsz : P.cellsOf e = size) (hs0 : 0 < size)
    (hR : ∀ (fuel' : Nat), fuel' < fuel → ∀ (cs : List Value) (y : DataW H × List MemPlace), DataW.trod enc P w base spare held fuel' e cs = some y → ∃ z, R (Lt w.heap.size) w z cs)
    (h : DataW.trod enc P w base spare held fuel t [v] = some x) : ∃ xs, Sl size R (Lt w.heap.size) w v xs := by
  rcases DataW.trod_slice ht h with ⟨hv, _⟩ | ⟨a, len, cap, elems, rest, n, hfu, hv, _, _, hl, hm, hlen, hi, _, _⟩
  · injection hv with hv; subst hv; exact ⟨[], Sl.none_⟩
  · injection hv with hv
    subst hv
    have key : ∀ i, ∃ z : α, i < len → ∃ cs : List Value, cs.length = size ∧ R (Lt w.heap.size) w z cs ∧ ∀ j, j < size → w.cell? ((a.add (i * size)).add j) = cs[j]? := by
      intro i
      by_cases hlt : i < len
      · have hh := hi i hlt
        rw [List.getElem?_eq_getElem (by omega)] at hh
        obtain ⟨cs', hc, htr⟩ := Option.bind_eq_some_iff.1 hh
        rw [hsz] at hc
        obtain ⟨z, hz⟩ := hR n (by omega) _ _ htr
        obtain ⟨_, hcl, hat⟩ := World.cells?_some hc
        exact ⟨z, fun _ => ⟨cs', hcl, hz, hat⟩⟩
      · exact ⟨default, fun h' => absurd h' hlt⟩
    refine ⟨(List.range len).map fun i => Classical.choose (key i), some a, cap, by simp, by simpa using hl, hm, fun i z hz => ?_⟩
    rw [List.getElem?_map] at hz
    have hlt : i < len := by
      rcases Nat.lt_or_ge i len with h' | h'
      · exact h'
      · rw [List.getElem?_eq_none (by simpa using h')] at hz; simp at hz
    rw [List.getElem?_range hlt] at hz
    injection hz with hz
    obtain ⟨cs, hcl, hr, hat⟩ := Classical.choose_spec (key i) hlt
    obtain ⟨cs0, hcl0, _, hat0⟩ := Classical.choose_spec (key 0) (by omega)
    have h00 := hat0 0 hs0
    have hc0 : cs0[0]? = some (cs0[0]'(by omega)) := List.getElem?_eq_getElem (by omega)
    rw [hc0] at h00
    have ha0 : (a.add (0 * size)).add 0 = a := by simp [Addr.add]
    rw [ha0] at h00
    obtain ⟨ha, hblk⟩ := cell_spot h00
    replace hz : Classical.choose (key i) = z := hz
    rw [hz] at hr
    refine ⟨a.block, a.off, cs, by rw [← ha], hblk, hcl, hr, fun j u hu => ?_⟩
    have hj : j < size := by
      rcases Nat.lt_or_ge j cs.length with h' | h'
      · omega
      · rw [List.getElem?_eq_none h'] at hu; cases hu
    have := hat j hj
    rw [ha, add_lit'] at this
    rw [this, hu]
end
theorem readRows : Tryz.prog.readableRec 22 = true := by kernel_rfl
theorem rowRows : 22 < Tryz.prog.types.size := of_decide_eq_true (by kernel_rfl)
theorem cellsStrs : Tryz.prog.cellsOf 51 = 1 := by kernel_rfl
theorem cellsStr1 : Tryz.prog.cellsOf 9 = 1 := by kernel_rfl
section
variable {H : Type} {enc : TypeId × Value → H} {w : World} {base : Nat} {spare : Nat → Bool} {held : Bool}
set_option maxRecDepth 100000 in
theorem slice_of {r : Go.Reach} {b0 : Nat} {v : Value} {d : DataW H} {p : List MemPlace} {t e : TypeId} (hs : Tryz.prog.underlying t = some (.slice e)) (hv : Value.okWide Tryz.prog w r b0 t v) (h : DataW.Trod enc Tryz.prog w base spare held t v d p) : ∃ fuel x, DataW.trod enc Tryz.prog w base spare held fuel t [v] = some x := by
  obtain ⟨a, len, cap, rfl⟩ := okWide_slice hs hv
  obtain ⟨fuel, hf⟩ := h
  exact ⟨fuel, (d, p), hf⟩
set_option maxRecDepth 100000 in
theorem strsI_of {fuel : Nat} {v : Value} {x : DataW H × List MemPlace} (h : DataW.trod enc Tryz.prog w base spare held fuel 51 [v] = some x) : ∃ ls : List Bt, SlP (Lt w.heap.size) w v ls := by
  obtain ⟨ss, hs⟩ := Sl.of_trodN (R := RStr) (size := 1) Tryz.underlying51 cellsStr1 (by omega) (fun f _ cs y hh => by
    obtain ⟨s, e0, _, hs⟩ := DataW.trod_string Tryz.underlying9 hh
    exact ⟨s, e0, hs⟩) h
  refine ⟨ss.map fun s => s.data.toList, ?_⟩
  have e : (ss.map fun s => s.data.toList).map bsOf = ss := by
    rw [List.map_map]
    conv => rhs; rw [← List.map_id ss]
    exact List.map_congr_left fun s _ => bs_of s
  show SlS _ _ _ _
  rw [e]
  exact hs
set_option maxRecDepth 100000 in
theorem rows_of {r : Go.Reach} {b0 : Nat} {v : Value} {d : DataW H} {p : List MemPlace} (hv : Value.okWide Tryz.prog w r b0 22 v) (h : DataW.Trod enc Tryz.prog w base spare held 22 v d p) : ∃ rows : List (List Bt), SlSS (Lt w.heap.size) w v rows := by
  obtain ⟨_, _, hy⟩ := slice_of Tryz.underlying22 hv h
  exact Sl.of_trodN (R := RStrs) (size := 1) Tryz.underlying22 cellsStrs (by omega) (fun f _ cs y hh => by
    have hone : ∃ v, cs = [v] := by
      rcases DataW.trod_slice Tryz.underlying51 hh with ⟨hv, _⟩ | ⟨_, _, _, _, _, _, _, hv, _⟩
      · exact ⟨_, hv⟩
      · exact ⟨_, hv⟩
    obtain ⟨v, rfl⟩ := hone
    obtain ⟨rs, hr⟩ := strsI_of hh
    exact ⟨rs, v, rfl, hr⟩) hy
end
end Go.Proofs.YtoalecalahkblaaGreatDoor

set_option linter.all false
namespace Go.Proofs.YtoalecalahkblaaGreatDoor
open Go.RowKit
theorem alI (W : World) : (Instr.alloc 3 true (.tuple #[])).run Tryz.prog W = .ok (.pointer (some ⟨W.heap.size, 0, none⟩)) (W.alloc (.cells #[.int .i64 0] 3)) := by kernel_rfl
theorem wide_len {rows : List (List Bt)} (h : wideB rows = false) : ∀ r ∈ rows, r.length ≤ 40 := by
  unfold wideB at h
  rw [Bool.or_eq_false_iff] at h
  intro r hr
  have h3 := List.any_eq_false.1 h.2 r hr
  have h3 : fatR r = false := by simpa using h3
  unfold fatR at h3
  rw [Bool.or_eq_false_iff] at h3
  have := of_decide_eq_false h3.1
  omega
theorem swp_le {a b : Nat} {r : List Bt} {B : Nat} (h : ∀ c ∈ r, c.length ≤ B) : ∀ c ∈ swpR a b r, c.length ≤ B := by
  have hg : ∀ k, (r.getD k []).length ≤ B := fun k => by
    rw [List.getD_eq_getElem?_getD]
    cases e : r[k]? with
    | none => exact Nat.zero_le _
    | some c => exact h c (List.mem_of_getElem? e)
  intro c hc
  unfold swpR at hc
  rcases List.mem_or_eq_of_mem_set hc with hc | rfl
  · rcases List.mem_or_eq_of_mem_set hc with hc | rfl
    · exact h c hc
    · exact hg b
  · exact hg a
theorem wpM_callK {P : Program} {f : FuncId} {o : Oper} {a : Act} {w : World} {K : Act → World → Prop} {Q : Exit → Act → World → Prop} (he : ∀ args w, (callFunc f args).run P w = .ok (.enter f args) w) (x : Operand) (args : Array Operand) (vals caps : Array Value) (ts : Array TypeId) (ho : o.op = .call { callee := .value x, args := args, argTypes := ts }) (hx : a.eval x = .func (.func f) #[] caps) (hv : args.map a.eval = vals)
    (h : Calls P f (vals ++ caps) w fun e w' => ∃ v, e = .returned v ∧ K (a.put o.dst v) w') : o.wp P a w K Q := by
  unfold Oper.wp execOp
  simp only [ho]
  generalize a.eval = ρ at hx hv ⊢
  simp [hx, hv, go_sem]
  rw [he]
  refine Calls.mono h ?_
  rintro e w' ⟨v, rfl, hK⟩
  exact hK
structure RelM (w0 : World) (B : Nat) (kv sv : Value) (W : World) : Prop where
  below : Below w0.heap.size w0 W
  row : ∃ cs, Blk W B 33 cs ∧ cs.size = 8 ∧ cs[6]? = some kv ∧ cs[7]? = some sv
theorem RelM.drew {w0 W : World} {B : Nat} {kv sv : Value} (h : RelM w0 B kv sv W) : RelM w0 B kv sv W.drew := ⟨h.below.drew, h.row⟩
theorem RelM.cell {w0 W : World} {B : Nat} {kv sv : Value} (h : RelM w0 B kv sv W) {k : Nat} (hk : k < 6) : ∃ u, W.cell? ⟨B, k, none⟩ = some u := by
  obtain ⟨cs, h1, h2, _⟩ := h.row
  exact ⟨cs[k], by rw [h1.cell, Array.getElem?_eq_getElem (by omega)]⟩
theorem RelM.frozen {w0 W : World} {B : Nat} {kv sv : Value} (h : RelM w0 B kv sv W) (k : Nat) : W.frozen? ⟨B, k, none⟩ = false := by
  obtain ⟨cs, h1, _⟩ := h.row
  exact h1.frozen k
theorem RelM.set_ {w0 W : World} {B : Nat} {kv sv : Value} (h : RelM w0 B kv sv W) (k : Nat) (hk : k < 6) (u : Value) (hB : w0.heap.size ≤ B := by exact Nat.le_refl _) : RelM w0 B kv sv (W.setCell ⟨B, k, none⟩ u) := by
  obtain ⟨cs, h1, h2, h3, h4⟩ := h.row
  refine ⟨h.below.setCell (p := ⟨B, k, none⟩) hB u, _, h1.set_ k u, by simpa using h2, ?_, ?_⟩
  · rw [Array.getElem?_setIfInBounds_ne (by omega)]; exact h3
  · rw [Array.getElem?_setIfInBounds_ne (by omega)]; exact h4
theorem RelM.end_ {w0 W : World} {B : Nat} {kv sv a b c d e f : Value} (h : RelM w0 B kv sv W) (h0 : W.cell? ⟨B, 0, none⟩ = some a) (h1 : W.cell? ⟨B, 1, none⟩ = some b) (h2 : W.cell? ⟨B, 2, none⟩ = some c) (h3 : W.cell? ⟨B, 3, none⟩ = some d) (h4 : W.cell? ⟨B, 4, none⟩ = some e) (h5 : W.cell? ⟨B, 5, none⟩ = some f) :
    Blk W B 33 #[a, b, c, d, e, f, kv, sv] := by
  obtain ⟨cs, hb, hs, h6, h7⟩ := h.row
  rw [hb.cell] at h0 h1 h2 h3 h4 h5
  have : cs = #[a, b, c, d, e, f, kv, sv] := by
    apply Array.ext_getElem?
    intro i
    match i with
    | 0 => exact h0
    | 1 => exact h1
    | 2 => exact h2
    | 3 => exact h3
    | 4 => exact h4
    | 5 => exact h5
    | 6 => exact h6
    | 7 => exact h7
    | n + 8 => rw [Array.getElem?_eq_none (by omega), Array.getElem?_eq_none (by simp)]
  rw [← this]
  exact hb
theorem great_len30 {m : Mp} (hg : greatB m = false) : m.data.length ≤ 30 := by
  unfold greatB at hg
  rw [Bool.or_eq_false_iff] at hg
  have := of_decide_eq_false hg.1
  omega
theorem ownZ_form {w : World} {base : Nat} {v : Value} {zs : List Int} (h : OwnZ w base v zs) : ∃ A c, v = .slice A zs.length c := by
  rcases h.2 with ⟨rfl, h0⟩ | ⟨g, cap, cur, rfl, _⟩
  · exact ⟨none, 0, by rw [h0]⟩
  · exact ⟨_, _, rfl⟩
theorem bsZ1 (z : Int) (W : World) : (Instr.buildSlice 31 1 #[(0, .int .i64 z)]).run Tryz.prog W = .ok (.slice (some ⟨W.heap.size, 0, none⟩) 1 1) (W.alloc (.cells #[.int .i64 z] 3)) := by kernel_rfl
theorem z_pushed {w3 w5 w' : World} {B M base : Nat} {zs : List Int} {z : Int} {a b c d e x y : Value} {A : Option Addr} {cv : Nat} {v' : Value} (hM : Blk w5 M 33 #[a, b, c, d, e, .slice A zs.length cv, x, y]) (hMb : M < base) (hBM : B ≤ M) (hb : Below B w3 w5)
    (hown : w'.ownsRow base 3 1 v' (zs.length + 1) (zs.map (Value.int .i64) ++ [.int .i64 z])) (hgr : w5.grownBy w' (Value.slice A zs.length cv).ownBlock) (hlt : ∀ g, (Value.slice A zs.length cv).ownBlock = some g → base ≤ g) :
    ∃ A' c', v' = .slice A' (zs ++ [z]).length c' ∧ Blk w' M 33 #[a, b, c, d, e, .slice A zs.length cv, x, y] ∧
      (Blk (w'.setCell ⟨M, 5, none⟩ v') M 33 #[a, b, c, d, e, v', x, y] ∧ OwnZ (w'.setCell ⟨M, 5, none⟩ v') base v' (zs ++ [z]) ∧ Below B w3 (w'.setCell ⟨M, 5, none⟩ v') ∧ w5.heap.size ≤ (w'.setCell ⟨M, 5, none⟩ v').heap.size) := by
  have ho : OwnZ w' base v' (zs ++ [z]) := by
    unfold OwnZ
    rw [List.map_append, List.length_append]
    exact hown
  obtain ⟨A', c', hv⟩ := ownZ_form ho
  have hM' : Blk w' M 33 #[a, b, c, d, e, .slice A zs.length cv, x, y] := hM.grown hgr (fun e => by have := hlt _ e.symm; omega)
  refine ⟨A', c', hv, hM', hM'.set_ 5 v', ?_, (hb.grown hgr (Nat.le_trans hBM (Nat.le_of_lt hM.lt)) (fun g e => by have := hlt g e; omega)).setCell (p := ⟨M, 5, none⟩) hBM v', by simpa using hgr.size⟩
  refine World.ownsRow.kept ho (Chg.grown (R := M) (Chg.refl.set (p := ⟨M, 5, none⟩) (.inr (show One M M from rfl)) v')) ?_
  cases e : v'.ownBlock with
  | none => exact .inl rfl
  | some g => exact .inr (fun h' => by injection h' with h'; have := (World.ownsRow.lt ho g e).1; omega)
theorem write_len16 {sep : UInt8} {rows : List (List Bt)} : (writeE sep rows).1.length ≤ 16384 := by
  unfold writeE
  by_cases h1 : isSep sep = false ∨ tableB rows = false
  · rw [if_pos h1]; exact Nat.zero_le _
  rw [if_neg h1]
  by_cases h2 : 2001 < rows.length
  · rw [if_pos h2]; exact Nat.zero_le _
  rw [if_neg h2]
  by_cases h3 : 16384 < (tableT sep rows).length
  · rw [if_pos h3]; exact Nat.zero_le _
  rw [if_neg h3]
  simp only
  omega
theorem swp_small {a b : Nat} {rows : List (List Bt)} (h : SmallT rows) : SmallT (rows.map (swpR a b)) := by
  refine ⟨by rw [List.length_map]; exact h.1, fun r hr => ?_⟩
  obtain ⟨r0, h0, rfl⟩ := List.mem_map.1 hr
  exact ⟨by rw [swpR_len]; exact (h.2 r0 h0).1, swp_le (h.2 r0 h0).2⟩
theorem gd_at {r : List Bt} {k : Nat} (h : k < r.length) : r[k]? = some (r.getD k []) := by
  rw [List.getD_eq_getElem?_getD, List.getElem?_eq_getElem h]; rfl
theorem col_len {m : Mp} (hg : greatB m = false) : m.data.length ≤ 1000000 := by
  unfold greatB at hg
  rw [Bool.or_eq_false_iff] at hg
  have := of_decide_eq_false hg.1
  omega
theorem tmod_nat (x n : Nat) : (x : Int).tmod (n : Int) = ((x % n : Nat) : Int) := by
  rw [Int.tmod_eq_emod_of_nonneg (by omega)]; omega
def abF (NB n a b : Nat) (iv kv : Int) : Nat → (Nat → Value) → World → Prop
  | 0, τ, _ => τ 0 = .int .u8 iv
  | 1, τ, _ => τ 1 = .int .i64 iv
  | 2, τ, _ => τ 2 = .int .i64 (n : Int)
  | 3, τ, _ => τ 3 = .int .i64 (a : Int)
  | 4, τ, _ => τ 4 = .int .u8 kv
  | 5, τ, _ => τ 5 = .int .i64 kv
  | 6, τ, _ => τ 6 = .int .i64 (n : Int)
  | 7, τ, _ => τ 7 = .int .i64 (b : Int)
  | 8, τ, W => ∃ p : Nat, τ 8 = .pointer (some ⟨p, 0, none⟩) ∧ ∃ a, Blk W p 3 #[a]
  | 9, τ, W => ∃ p : Nat, τ 9 = .pointer (some ⟨p, 0, none⟩) ∧ ∃ a, Blk W p 3 #[a]
  | 10, τ, W => ∃ p : Nat, τ 8 = .pointer (some ⟨p, 0, none⟩) ∧ Blk W p 3 #[.int .i64 (a : Int)]
  | 11, τ, W => ∃ p : Nat, τ 9 = .pointer (some ⟨p, 0, none⟩) ∧ Blk W p 3 #[.int .i64 (b : Int)]
  | _, _, _ => True
theorem abF_keep {NB n a b : Nat} {iv kv : Int} {listed : Array Bool} {i : Nat} {τ τ' : Nat → Value} {W W' : World} (hup10 : Up listed 10 → Up listed 8) (hup11 : Up listed 11 → Up listed 9) (hi : ¬ Up listed i) (ht : ∀ j, j < 12 → j ≠ i → τ' j = τ j) (hb : Below W.heap.size W W')
    (hf : ∀ j, j < 12 → Up listed j → abF NB n a b iv kv j τ W) : ∀ j, j < 12 → j ≠ i → Up listed j → abF NB n a b iv kv j τ' W' := by
  intro j hj hji hu
  match j, hj with
  | 0, _ =>
    exact (ht 0 (by decide) hji).trans (hf 0 (by decide) hu)
  | 1, _ =>
    exact (ht 1 (by decide) hji).trans (hf 1 (by decide) hu)
  | 2, _ =>
    exact (ht 2 (by decide) hji).trans (hf 2 (by decide) hu)
  | 3, _ =>
    exact (ht 3 (by decide) hji).trans (hf 3 (by decide) hu)
  | 4, _ =>
    exact (ht 4 (by decide) hji).trans (hf 4 (by decide) hu)
  | 5, _ =>
    exact (ht 5 (by decide) hji).trans (hf 5 (by decide) hu)
  | 6, _ =>
    exact (ht 6 (by decide) hji).trans (hf 6 (by decide) hu)
  | 7, _ =>
    exact (ht 7 (by decide) hji).trans (hf 7 (by decide) hu)
  | 8, _ =>
    obtain ⟨p, e, a, h⟩ := hf 8 (by decide) hu
    exact ⟨p, (ht 8 (by decide) hji).trans e, a, h.now hb⟩
  | 9, _ =>
    obtain ⟨p, e, a, h⟩ := hf 9 (by decide) hu
    exact ⟨p, (ht 9 (by decide) hji).trans e, a, h.now hb⟩
  | 10, _ =>
    obtain ⟨p, e, h⟩ := hf 10 (by decide) hu
    exact ⟨p, (ht 8 (by decide) (fun e => hi (e ▸ hup10 hu))).trans e, h.now hb⟩
  | 11, _ =>
    obtain ⟨p, e, h⟩ := hf 11 (by decide) hu
    exact ⟨p, (ht 9 (by decide) (fun e => hi (e ▸ hup11 hu))).trans e, h.now hb⟩
  | n + 12, hj => exact absurd hj (by omega)
def abF_mk (i : Nat) : Bool := i == 8 || i == 9
def swF (g n cap a b : Nat) (r : List Bt) (P : World → Prop) : Nat → Value → World → Prop
  | 0, u, _ => u = .slice (some ⟨g, 0, none⟩) n cap
  | 1, u, _ => u = .int .i64 (a : Int)
  | 2, u, _ => u = .slice (some ⟨g, 0, none⟩) n cap
  | 3, u, _ => u = .int .i64 (b : Int)
  | 4, u, _ => u = .slice (some ⟨g, 0, none⟩) n cap
  | 5, u, _ => u = .int .i64 (b : Int)
  | 6, u, _ => u = .pointer (some ⟨g, b, none⟩)
  | 7, u, _ => u = .string (bsOf (r.getD b []))
  | 8, u, _ => u = .slice (some ⟨g, 0, none⟩) n cap
  | 9, u, _ => u = .int .i64 (a : Int)
  | 10, u, _ => u = .pointer (some ⟨g, a, none⟩)
  | 11, u, _ => u = .string (bsOf (r.getD a []))
  | 12, u, _ => u = .pointer (some ⟨g, a, none⟩)
  | 14, u, _ => u = .pointer (some ⟨g, b, none⟩)
  | 15, _, W => P W
  | _, _, _ => True
def mpF (M B pa pb a b : Nat) (m : Mp) : Nat → Value → World → Prop
  | 0, u, _ => u = .func (.func 27) #[] #[.pointer (some ⟨pa, 0, none⟩), .pointer (some ⟨pb, 0, none⟩)]
  | 1, u, _ => u = .pointer (some ⟨M, 0, none⟩)
  | 2, u, _ => u = .int .i64 m.cas
  | 3, u, _ => u = .int .i64 (mvZ a b m.cas)
  | 4, u, _ => u = .func (.func 27) #[] #[.pointer (some ⟨pa, 0, none⟩), .pointer (some ⟨pb, 0, none⟩)]
  | 5, u, _ => u = .pointer (some ⟨M, 1, none⟩)
  | 6, u, _ => u = .int .i64 m.act
  | 7, u, _ => u = .int .i64 (mvZ a b m.act)
  | 8, u, _ => u = .func (.func 27) #[] #[.pointer (some ⟨pa, 0, none⟩), .pointer (some ⟨pb, 0, none⟩)]
  | 9, u, _ => u = .pointer (some ⟨M, 2, none⟩)
  | 10, u, _ => u = .int .i64 m.res
  | 11, u, _ => u = .int .i64 (mvZ a b m.res)
  | 12, u, _ => u = .func (.func 27) #[] #[.pointer (some ⟨pa, 0, none⟩), .pointer (some ⟨pb, 0, none⟩)]
  | 13, u, _ => u = .pointer (some ⟨M, 3, none⟩)
  | 14, u, _ => u = .int .i64 m.life
  | 15, u, _ => u = .int .i64 (mvZ a b m.life)
  | 16, u, _ => u = .func (.func 27) #[] #[.pointer (some ⟨pa, 0, none⟩), .pointer (some ⟨pb, 0, none⟩)]
  | 17, u, _ => u = .pointer (some ⟨M, 4, none⟩)
  | 18, u, _ => u = .int .i64 m.time
  | 19, u, _ => u = .int .i64 (mvZ a b m.time)
  | 20, u, _ => u = .pointer (some ⟨B, 0, none⟩)
  | 21, _, W => W.cell? ⟨B, 0, none⟩ = some (.int .i64 (mvZ a b m.cas))
  | 22, u, _ => u = .pointer (some ⟨B, 1, none⟩)
  | 23, _, W => W.cell? ⟨B, 1, none⟩ = some (.int .i64 (mvZ a b m.act))
  | 24, u, _ => u = .pointer (some ⟨B, 2, none⟩)
  | 25, _, W => W.cell? ⟨B, 2, none⟩ = some (.int .i64 (mvZ a b m.res))
  | 26, u, _ => u = .pointer (some ⟨B, 3, none⟩)
  | 27, _, W => W.cell? ⟨B, 3, none⟩ = some (.int .i64 (mvZ a b m.life))
  | 28, u, _ => u = .pointer (some ⟨B, 4, none⟩)
  | 29, _, W => W.cell? ⟨B, 4, none⟩ = some (.int .i64 (mvZ a b m.time))
  | 30, u, _ => u = .pointer (some ⟨B, 5, none⟩)
  | 31, _, W => W.cell? ⟨B, 5, none⟩ = some (.slice none 0 0)
  | _, _, _ => True
def pzF (B pa pb zl cv S : Nat) (Av : Option Addr) (dx mz : Int) (P9 : Value → World → Prop) (P11 : World → Prop) : Nat → Value → World → Prop
  | 0, u, _ => u = .pointer (some ⟨B, 5, none⟩)
  | 1, u, _ => u = .slice Av zl cv
  | 2, u, _ => u = .func (.func 27) #[] #[.pointer (some ⟨pa, 0, none⟩), .pointer (some ⟨pb, 0, none⟩)]
  | 3, u, _ => u = .int .i64 dx
  | 4, u, _ => u = .int .i64 (mz)
  | 5, u, _ => u = .slice (some ⟨S, 0, none⟩) 1 1
  | 6, u, W => P9 u W
  | 7, u, _ => u = .pointer (some ⟨B, 5, none⟩)
  | 8, _, W => P11 W
  | _, _, _ => True
def pzFD (j k : Nat) : Bool := j == 6 && k == 8
set_option maxHeartbeats 8000000 in
set_option maxRecDepth 100000 in
theorem importsColumns_law (rows : List (List Bt)) (m : Mp) (iu ku : UInt8) (v um : Value) (w : World) (h : SlSS (Lt w.heap.size) w v rows) (hm : IsMp (Lt w.heap.size) w um m) (ha : AmbP w) :
    Calls Tryz.prog 6 #[v, um, .int .u8 (iu.toNat : Int), .int .u8 (ku.toNat : Int)] w fun e w' => e = .returned (.bool true) ∧ Below w.heap.size w w' := by
  have HAW := Lib.hid (fun W hW => awake_any W hW)
  have HH := Lib.hid h
  have HMP := Lib.hid hm
  have HAM := Lib.hid ha
  have HWD := Lib.hid (fun W hW => wide_any v rows W hW)
  have HGT := Lib.hid (fun W hW => great_any um m W hW)
  have HRV := Lib.hid (fun W h1 h2 => valid_ref um m W h1 h2)
  have HWP := Lib.hid (fun W hW hs hA => write_any rows v m.sep W hW hs hA)
  have HIM := Lib.hid (fun s W h1 h2 h3 h4 => import_any s um m W h1 h2 h3 h4)
  obtain ⟨Ar, rc, rfl, hrc, hrm, hrs⟩ := h.open_
  obtain ⟨dv, kv, rfl, hfm, hmd, hmk⟩ := hm
  have HDFT := Lib.hid (slI_fit hmd)
  have HMD := Lib.hid hmd
  have HMK := Lib.hid hmk
  obtain ⟨Ad, cd, rfl, _, _, hmd⟩ := hmd.open_
  obtain ⟨Ak, ck, rfl, _, _, hmk⟩ := hmk.open_
  unfold mpV at HMP HGT HRV HIM ⊢
  obtain ⟨z, hz⟩ : ∃ z, (m.sep.toNat : Int) = z := ⟨_, rfl⟩
  rw [hz] at HMP HGT HRV HIM HWP ⊢
  have HZ := Lib.hid hz
  obtain ⟨q1, hq1⟩ : ∃ q, wideB rows = q := ⟨_, rfl⟩
  obtain ⟨q2, hq2⟩ : ∃ q, greatB m = q := ⟨_, rfl⟩
  obtain ⟨q4, hq4⟩ : ∃ q, mapB m = q := ⟨_, rfl⟩
  rw [hq1] at HWD
  rw [hq2] at HGT
  rw [hq4] at HRV
  have HQ1 := Lib.hid hq1
  have HQ2 := Lib.hid hq2
  have HQ4 := Lib.hid hq4
  obtain ⟨ivv, hiv⟩ : ∃ x, (iu.toNat : Int) = x := ⟨_, rfl⟩
  obtain ⟨kvv, hkv⟩ : ∃ x, (ku.toNat : Int) = x := ⟨_, rfl⟩
  rw [hiv, hkv]
  have HIV : Hid (∃ x : Nat, ivv = (x : Int) ∧ x < 256) := Lib.hid ⟨iu.toNat, hiv.symm, UInt8.toNat_lt iu⟩
  have HKV : Hid (∃ x : Nat, kvv = (x : Int) ∧ x < 256) := Lib.hid ⟨ku.toNat, hkv.symm, UInt8.toNat_lt ku⟩
  have hb1 := bone w (.cells #[.int .i64 m.cas, .int .i64 m.act, .int .i64 m.res, .int .i64 m.life, .int .i64 m.time, .slice Ad m.data.length cd, .slice Ak m.kinds.length ck, .int .u8 z] 33)
  have k1 := Blk.new w 33 #[.int .i64 m.cas, .int .i64 m.act, .int .i64 m.res, .int .i64 m.life, .int .i64 m.time, .slice Ad m.data.length cd, .slice Ak m.kinds.length ck, .int .u8 z]
  clear hz hq1 hq2 hq4 hiv hkv hmd hmk hrs ha
  go_enter Tryz.func6, Tryz.ntmps6
  go_upto_region 1 with fail
  obtain ⟨w1, hw1⟩ : ∃ w1, w.alloc (.cells #[.int .i64 m.cas, .int .i64 m.act, .int .i64 m.res, .int .i64 m.life, .int .i64 m.time, .slice Ad m.data.length cd, .slice Ak m.kinds.length ck, .int .u8 z] 33) = w1 := ⟨_, rfl⟩
  rw [hw1] at hb1 k1 ⊢
  have HB := Lib.hid hb1
  have HK := Lib.hid k1
  have HA1 := Lib.hid (HAW.out w1 (HAM.out.now hb1))
  clear hw1 hb1 k1
  go_wp2_with fail
  (with_reducible refine HA1.out.mono ?_)
  rintro _ w2 ⟨rfl, hb2⟩
  have HB2 := Lib.hid (bthen HB.out hb2)
  have HK2 := Lib.hid (HK.out.now hb2)
  have HW2 := Lib.hid (HWD.out w2 (HH.out.now HB2.out))
  clear hb2 HA1 HB HK HAW
  go_wp2_with fail
  (with_reducible refine HW2.out.mono ?_)
  rintro _ w3 ⟨rfl, hb3⟩
  have HB3 := Lib.hid (bthen HB2.out hb3)
  have HK3 := Lib.hid (HK2.out.now hb3)
  clear hb3 HW2 HB2 HK2 HWD
  obtain ⟨c0, c1, c2, c3, c4, c5, c6, c7⟩ := HK3.out.c8m
  cases q1 with
  | true =>
    go_wp2_with fail
    go_ret
    exact ⟨rfl, HB3.out⟩
  | false =>
    have HG3 := Lib.hid (HGT.out w3 (HMP.out.now HB3.out))
    go_wp2_with fail
    (with_reducible refine HG3.out.mono ?_)
    rintro _ w4 ⟨rfl, hb4⟩
    have HB4 := Lib.hid (bthen HB3.out hb4)
    have HK4 := Lib.hid (HK3.out.now hb4)
    clear hb4 HG3 HB3 HK3 c0 c1 c2 c3 c4 c5 c6 c7 HGT
    obtain ⟨c0, c1, c2, c3, c4, c5, c6, c7⟩ := HK4.out.c8m
    cases q2 with
    | true =>
      go_wp2_with fail
      go_ret
      exact ⟨rfl, HB4.out⟩
    | false =>
      have HSM := Lib.hid (small_of HQ1.out)
      have HDL := Lib.hid (col_len HQ2.out)
      match rows, HH, HSM, HWP, hrc with
      | [], HH, HSM, HWP, hrc =>
        rw [List.length_nil]
        go_wp2_with fail
        go_ret
        exact ⟨rfl, HB4.out⟩
      | hd :: rs, HH, HSM, HWP, hrc =>
      have HRV4 := Lib.hid (HRV.out w4 (HMP.out.now HB4.out) HDL.out)
      have e0 : (((rs.length : Int) + 1) == 0) = false := beq_false_of_ne (by omega)
      rw [List.length_cons]
      go_wp2_with fail
      (with_reducible refine HRV4.out.mono ?_)
      rintro _ w5 ⟨rfl, hb5⟩
      have HB5 := Lib.hid (bthen HB4.out hb5)
      have HK5 := Lib.hid (HK4.out.now hb5)
      clear hb5 HRV4 HB4 HK4 c0 c1 c2 c3 c4 c5 c6 c7 e0
      cases q4 with
      | false =>
        go_wp2_with fail
        go_ret
        exact ⟨rfl, HB5.out⟩
      | true =>
      have HR5 := Lib.hid (HH.out.now HB5.out)
      obtain ⟨rb, ro, hrow, hv, hA, hrD, hrx, hhv, hrcell⟩ := SlSS.at_ HR5.out (k := 0) (by simp)
      subst hA
      have hrx : some hd = some hrow := hrx
      injection hrx with hrx
      subst hrx
      obtain ⟨Ah, hcp, hvv, _, _, _⟩ := hhv.open_
      subst hvv
      rw [Nat.add_zero] at hrcell
      obtain ⟨n, hn⟩ : ∃ n, hd.length = n := ⟨_, rfl⟩
      rw [hn] at hrcell hhv
      have HN := Lib.hid hn
      have i0 : (0 : Int) < ((rs.length + 1 : Nat) : Int) := by omega
      have HB6 := Lib.hid (bone w5 (.cells #[.int .i64 (n : Int)] 3))
      have HN6 := Lib.hid (Blk.new w5 3 #[.int .i64 (n : Int)])
      go_upto_region 6 with fail
      obtain ⟨w6, hw6⟩ : ∃ w6, w5.alloc (.cells #[.int .i64 (n : Int)] 3) = w6 := ⟨_, rfl⟩
      rw [hw6] at HB6 HN6 ⊢
      obtain ⟨NB, hNB⟩ : ∃ NB, w5.heap.size = NB := ⟨_, rfl⟩
      rw [hNB] at HN6 ⊢
      have HBW6 := Lib.hid (bthen HB5.out HB6.out)
      have HK6 := Lib.hid (HK5.out.now HB6.out)
      have HR6 := Lib.hid (HR5.out.now HB6.out)
      have HLN : Hid (Calls Tryz.prog 24 #[.slice (some ⟨rb, ro, none⟩) (rs.length + 1) rc, .func (.func 25) #[] #[.pointer (some ⟨NB, 0, none⟩)]] w6 fun e w' => e = .returned (.bool ((hd :: rs).any fun r => decide ((r.length : Int) ≠ (n : Int)))) ∧ Below w6.heap.size w6 w') := Lib.hid (contFR 25 #[.pointer (some ⟨NB, 0, none⟩)] enters_len _ (hd :: rs) _ w6 HR6.out (by
        intro x u W hx hr hb
        obtain ⟨v', h1, h2⟩ := hr
        injection h1 with h1
        subst h1
        exact (len_any u x NB n W (h2.now hb) (HN6.out.now hb).c1).mono fun e w' ⟨h1, h2⟩ => ⟨h1, h2 ▸ Below.refl _ _⟩))
      obtain ⟨q5, hq5⟩ : ∃ q, ((hd :: rs).any fun r => decide ((r.length : Int) ≠ (n : Int))) = q := ⟨_, rfl⟩
      rw [hq5] at HLN
      have HQ5 := Lib.hid hq5
      have n0 := HN6.out.c1
      clear hq5 hw6 hNB hn hrcell hhv hrD HB5 HK5 HR5 HB6 i0
      by_cases hn0 : n = 0
      · have e1 : ((n : Int) == 0) = true := by rw [hn0]; rfl
        clear hn0
        go_wp2_with fail
        go_ret
        exact ⟨rfl, HBW6.out⟩
      have e1 : ((n : Int) == 0) = false := beq_false_of_ne (by omega)
      have HN0 := Lib.hid hn0
      clear hn0
      go_wp2_with fail
      (with_reducible refine HLN.out.mono ?_)
      rintro _ w7 ⟨rfl, hb7⟩
      have HB7 := Lib.hid (bthen HBW6.out hb7)
      have HK7 := Lib.hid (HK6.out.now hb7)
      have HN7 := Lib.hid (HN6.out.now hb7)
      have HR7 := Lib.hid (HR6.out.now hb7)
      clear hb7 HLN HBW6 HK6 HN6 HR6 n0 e1
      cases q5 with
      | true =>
        go_wp2_with fail
        go_ret
        exact ⟨rfl, HB7.out⟩
      | false =>
      have HAL : Hid (∀ r ∈ hd :: rs, r.length = n) := Lib.hid fun r hr => by
        have := List.any_eq_false.1 HQ5.out r hr
        simp at this
        omega
      clear HQ5
      obtain ⟨xi, hxi, hxi2⟩ := HIV.out
      obtain ⟨xk, hxk, hxk2⟩ := HKV.out
      subst hxi hxk
      clear HIV HKV
      have hnp : 0 < n := by have := HN0.out; omega
      have HAN : Hid (xi % n < n ∧ xk % n < n) := Lib.hid ⟨Nat.mod_lt _ hnp, Nat.mod_lt _ hnp⟩
      have haw0 : ((xi : Int)).tmod (n : Int) = ((xi % n : Nat) : Int) := tmod_nat xi n
      have hbw0 : ((xk : Int)).tmod (n : Int) = ((xk % n : Nat) : Int) := tmod_nat xk n
      have hawr : IntKind.i64.wrap ((xi : Int).tmod (n : Int)) = ((xi % n : Nat) : Int) := by rw [haw0]; exact i64wrap ⟨by omega, by have := Nat.mod_le xi n; omega⟩
      have hbwr : IntKind.i64.wrap ((xk : Int).tmod (n : Int)) = ((xk % n : Nat) : Int) := by rw [hbw0]; exact i64wrap ⟨by omega, by have := Nat.mod_le xk n; omega⟩
      generalize xi % n = a at *
      generalize xk % n = b at *
      go_upto_region 8 with fail
      go_cut [10, 11] from 59 to 66 (fun pv qv W => ∃ pa pb : Nat, pv = .pointer (some ⟨pa, 0, none⟩) ∧ qv = .pointer (some ⟨pb, 0, none⟩) ∧ Blk W pa 3 #[.int .i64 (a : Int)] ∧ Blk W pb 3 #[.int .i64 (b : Int)] ∧ Below w7.heap.size w7 W)
      case first =>
        clear HH HMP HAM HSM HWP HRV HIM HMD HMK HZ HQ1 HQ2 HQ4 HDL HB7 HK7 HR7 HAL HAN HN
        rename_i J1 K1 hJ hK
        have n0 := HN7.out.c1
        have hNB : NB < w7.heap.size := HN7.out.lt
        have hnz : ¬ (n : Int) = 0 := by omega
        have hn1 : ¬ n = 0 := by omega
        have hiw : IntKind.i64.wrap (xi : Int) = (xi : Int) := i64wrap ⟨by omega, by omega⟩
        have hkw : IntKind.i64.wrap (xk : Int) = (xk : Int) := i64wrap ⟨by omega, by omega⟩
        refine wp_region_mk (by kernel_rfl) (by kernel_rfl) (by kernel_rfl) abF_mk (abF NB n a b (xi : Int) (xk : Int)) ?hstep ?hmk ?hend ?hall
        case hall => exact hall_of (by kernel_rfl)
        case hmk =>
          intro i o ho hm
          match i, ho with
          | 0, ho => exact absurd hm (by decide)
          | 1, ho => exact absurd hm (by decide)
          | 2, ho => exact absurd hm (by decide)
          | 3, ho => exact absurd hm (by decide)
          | 4, ho => exact absurd hm (by decide)
          | 5, ho => exact absurd hm (by decide)
          | 6, ho => exact absurd hm (by decide)
          | 7, ho => exact absurd hm (by decide)
          | 8, ho => injection ho with ho; subst ho; simp
          | 9, ho => injection ho with ho; subst ho; simp
          | 10, ho => exact absurd hm (by decide)
          | 11, ho => exact absurd hm (by decide)
          | n + 12, ho => simp at ho
        case hstep =>
          intro i o ho listed ac W hsh hi hk hM
          have hni := ready_not hi
          have hup10 : Up listed 10 → Up listed 8 := fun h => hsh.up h (by kernel_rfl)
          have hup11 : Up listed 11 → Up listed 9 := fun h => hsh.up h (by kernel_rfl)
          have hbW : Below w7.heap.size w7 W := (Below.refl _ _).drew.trans hM.below
          match i, ho with
          | 0, ho =>
            injection ho with ho
            subst ho
            have e0 : ac.eval (.tmp 2) = .int .u8 (xi : Int) := hk.same (s := 2) (by kernel_rfl)
            exact wpM_moveV _ _ rfl e0 ⟨_, rfl, Below.refl _ _, fun h => absurd h (by decide), fun τ' t1 t2 => ⟨t1 (by simp), fun j hj hji hu => abF_keep hup10 hup11 hni t2 (Below.refl _ _) hM.facts j hj hji hu⟩⟩
          | 1, ho =>
            injection ho with ho
            subst ho
            have e0 : ac.eval (.tmp 59) = .int .u8 (xi : Int) := hM.facts 0 (by decide) (ready_up hi (by kernel_rfl))
            exact wpM_run (.int .i64 (xi : Int)) W (by simp only [execOp, e0]; simp [go_sem, hiw]) ⟨_, rfl, Below.refl _ _, fun h => absurd h (by decide), fun τ' t1 t2 => ⟨t1 (by simp), fun j hj hji hu => abF_keep hup10 hup11 hni t2 (Below.refl _ _) hM.facts j hj hji hu⟩⟩
          | 2, ho =>
            injection ho with ho
            subst ho
            have e0 : ac.eval (.tmp 9) = .pointer (some ⟨NB, 0, none⟩) := hk.same (s := 9) (by kernel_rfl)
            exact wpM_load _ _ _ (.int .i64 (n : Int)) rfl e0 (by simp [go_sem, (hbW.cell (p := ⟨NB, 0, none⟩) hNB).trans n0]) ⟨_, rfl, Below.refl _ _, fun h => absurd h (by decide), fun τ' t1 t2 => ⟨t1 (by simp), fun j hj hji hu => abF_keep hup10 hup11 hni t2 (Below.refl _ _) hM.facts j hj hji hu⟩⟩
          | 3, ho =>
            injection ho with ho
            subst ho
            have e0 : ac.eval (.tmp 60) = .int .i64 (xi : Int) := hM.facts 1 (by decide) (ready_up hi (by kernel_rfl))
            have e1 : ac.eval (.tmp 61) = .int .i64 (n : Int) := hM.facts 2 (by decide) (ready_up hi (by kernel_rfl))
            exact wpM_run (.int .i64 (a : Int)) W (by simp only [execOp, e0, e1]; simp [go_sem, hn1, hnz, hawr, haw0]) ⟨_, rfl, Below.refl _ _, fun h => absurd h (by decide), fun τ' t1 t2 => ⟨t1 (by simp), fun j hj hji hu => abF_keep hup10 hup11 hni t2 (Below.refl _ _) hM.facts j hj hji hu⟩⟩
          | 4, ho =>
            injection ho with ho
            subst ho
            have e0 : ac.eval (.tmp 3) = .int .u8 (xk : Int) := hk.same (s := 3) (by kernel_rfl)
            exact wpM_moveV _ _ rfl e0 ⟨_, rfl, Below.refl _ _, fun h => absurd h (by decide), fun τ' t1 t2 => ⟨t1 (by simp), fun j hj hji hu => abF_keep hup10 hup11 hni t2 (Below.refl _ _) hM.facts j hj hji hu⟩⟩
          | 5, ho =>
            injection ho with ho
            subst ho
            have e0 : ac.eval (.tmp 63) = .int .u8 (xk : Int) := hM.facts 4 (by decide) (ready_up hi (by kernel_rfl))
            exact wpM_run (.int .i64 (xk : Int)) W (by simp only [execOp, e0]; simp [go_sem, hkw]) ⟨_, rfl, Below.refl _ _, fun h => absurd h (by decide), fun τ' t1 t2 => ⟨t1 (by simp), fun j hj hji hu => abF_keep hup10 hup11 hni t2 (Below.refl _ _) hM.facts j hj hji hu⟩⟩
          | 6, ho =>
            injection ho with ho
            subst ho
            have e0 : ac.eval (.tmp 9) = .pointer (some ⟨NB, 0, none⟩) := hk.same (s := 9) (by kernel_rfl)
            exact wpM_load _ _ _ (.int .i64 (n : Int)) rfl e0 (by simp [go_sem, (hbW.cell (p := ⟨NB, 0, none⟩) hNB).trans n0]) ⟨_, rfl, Below.refl _ _, fun h => absurd h (by decide), fun τ' t1 t2 => ⟨t1 (by simp), fun j hj hji hu => abF_keep hup10 hup11 hni t2 (Below.refl _ _) hM.facts j hj hji hu⟩⟩
          | 7, ho =>
            injection ho with ho
            subst ho
            have e0 : ac.eval (.tmp 64) = .int .i64 (xk : Int) := hM.facts 5 (by decide) (ready_up hi (by kernel_rfl))
            have e1 : ac.eval (.tmp 65) = .int .i64 (n : Int) := hM.facts 6 (by decide) (ready_up hi (by kernel_rfl))
            exact wpM_run (.int .i64 (b : Int)) W (by simp only [execOp, e0, e1]; simp [go_sem, hn1, hnz, hbwr, hbw0]) ⟨_, rfl, Below.refl _ _, fun h => absurd h (by decide), fun τ' t1 t2 => ⟨t1 (by simp), fun j hj hji hu => abF_keep hup10 hup11 hni t2 (Below.refl _ _) hM.facts j hj hji hu⟩⟩
          | 8, ho =>
            injection ho with ho
            subst ho
            exact wpM_alloc _ _ _ rfl (alI W) ⟨_, rfl, (bone _ _).mono hbW.size, fun _ => ⟨Nat.le_refl _, by simp [blkOf]⟩, fun τ' t1 t2 => ⟨⟨_, t1 (by simp), _, Blk.new _ _ _⟩, fun j hj hji hu => abF_keep hup10 hup11 hni t2 (bone _ _) hM.facts j hj hji hu⟩⟩
          | 9, ho =>
            injection ho with ho
            subst ho
            exact wpM_alloc _ _ _ rfl (alI W) ⟨_, rfl, (bone _ _).mono hbW.size, fun _ => ⟨Nat.le_refl _, by simp [blkOf]⟩, fun τ' t1 t2 => ⟨⟨_, t1 (by simp), _, Blk.new _ _ _⟩, fun j hj hji hu => abF_keep hup10 hup11 hni t2 (bone _ _) hM.facts j hj hji hu⟩⟩
          | 10, ho =>
            injection ho with ho
            subst ho
            have e0 : ac.eval (.tmp 62) = .int .i64 (a : Int) := hM.facts 3 (by decide) (ready_up hi (by kernel_rfl))
            have u1 := ready_up hi (show Region.waitsFor .any _ 10 8 = true by kernel_rfl)
            obtain ⟨p, ep, x0, hp⟩ := hM.facts 8 (by decide) u1
            have k1 : ac.eval (.tmp 10) = .pointer (some ⟨p, 0, none⟩) := ep
            have hlo := hM.lo 8 (by decide) rfl u1
            rw [ep] at hlo
            have hlo1 : w7.heap.size ≤ p := hlo.1
            have q0 := hp.c1
            have f0 := hp.frozen 0
            have hset : Blk (W.setCell ⟨p, 0, none⟩ (.int .i64 (a : Int))) p 3 #[.int .i64 (a : Int)] := (hp.set_ 0 (.int .i64 (a : Int)))
            have hbs : Below w7.heap.size W (W.setCell ⟨p, 0, none⟩ (.int .i64 (a : Int))) := ((Below.refl _ _).setCell (p := ⟨p, 0, none⟩) hlo1 (.int .i64 (a : Int)))
            refine wpM_store _ _ _ _ _ (W.setCell ⟨p, 0, none⟩ (.int .i64 (a : Int))) () rfl k1 e0 (by simp [go_sem, q0, f0]) ⟨_, rfl, hbs, fun h => absurd h (by decide), fun τ' t1 t2 => ⟨⟨p, (t2 8 (by decide) (by decide)).trans ep, hset⟩, fun j hj hji hu => ?_⟩⟩
            match j, hj with
            | 0, _ => exact (t2 0 (by decide) hji).trans (hM.facts 0 (by decide) hu)
            | 1, _ => exact (t2 1 (by decide) hji).trans (hM.facts 1 (by decide) hu)
            | 2, _ => exact (t2 2 (by decide) hji).trans (hM.facts 2 (by decide) hu)
            | 3, _ => exact (t2 3 (by decide) hji).trans (hM.facts 3 (by decide) hu)
            | 4, _ => exact (t2 4 (by decide) hji).trans (hM.facts 4 (by decide) hu)
            | 5, _ => exact (t2 5 (by decide) hji).trans (hM.facts 5 (by decide) hu)
            | 6, _ => exact (t2 6 (by decide) hji).trans (hM.facts 6 (by decide) hu)
            | 7, _ => exact (t2 7 (by decide) hji).trans (hM.facts 7 (by decide) hu)
            | 8, _ => exact ⟨p, (t2 8 (by decide) (by decide)).trans ep, _, hset⟩
            | 9, _ =>
              obtain ⟨p', e', a, h'⟩ := hM.facts 9 (by decide) hu
              have hne : p' ≠ p := by have h9 := hM.apart 9 8 (by decide) (by decide) rfl rfl hu u1 (by decide); rw [e', ep] at h9; exact h9
              exact ⟨p', (t2 9 (by decide) hji).trans e', a, (h'.far (p := ⟨p, 0, none⟩) hne _)⟩
            | 10, _ => exact absurd rfl hji
            | 11, _ =>
              obtain ⟨p', e', h'⟩ := hM.facts 11 (by decide) hu
              have hne : p' ≠ p := by have h9 := hM.apart 9 8 (by decide) (by decide) rfl rfl (hup11 hu) u1 (by decide); rw [e', ep] at h9; exact h9
              exact ⟨p', (t2 9 (by decide) (by decide)).trans e', (h'.far (p := ⟨p, 0, none⟩) hne _)⟩
            | n + 12, hj => exact absurd hj (by simp)
          | 11, ho =>
            injection ho with ho
            subst ho
            have e0 : ac.eval (.tmp 66) = .int .i64 (b : Int) := hM.facts 7 (by decide) (ready_up hi (by kernel_rfl))
            have u1 := ready_up hi (show Region.waitsFor .any _ 11 9 = true by kernel_rfl)
            obtain ⟨p, ep, x0, hp⟩ := hM.facts 9 (by decide) u1
            have k1 : ac.eval (.tmp 11) = .pointer (some ⟨p, 0, none⟩) := ep
            have hlo := hM.lo 9 (by decide) rfl u1
            rw [ep] at hlo
            have hlo1 : w7.heap.size ≤ p := hlo.1
            have q0 := hp.c1
            have f0 := hp.frozen 0
            have hset : Blk (W.setCell ⟨p, 0, none⟩ (.int .i64 (b : Int))) p 3 #[.int .i64 (b : Int)] := (hp.set_ 0 (.int .i64 (b : Int)))
            have hbs : Below w7.heap.size W (W.setCell ⟨p, 0, none⟩ (.int .i64 (b : Int))) := ((Below.refl _ _).setCell (p := ⟨p, 0, none⟩) hlo1 (.int .i64 (b : Int)))
            refine wpM_store _ _ _ _ _ (W.setCell ⟨p, 0, none⟩ (.int .i64 (b : Int))) () rfl k1 e0 (by simp [go_sem, q0, f0]) ⟨_, rfl, hbs, fun h => absurd h (by decide), fun τ' t1 t2 => ⟨⟨p, (t2 9 (by decide) (by decide)).trans ep, hset⟩, fun j hj hji hu => ?_⟩⟩
            match j, hj with
            | 0, _ => exact (t2 0 (by decide) hji).trans (hM.facts 0 (by decide) hu)
            | 1, _ => exact (t2 1 (by decide) hji).trans (hM.facts 1 (by decide) hu)
            | 2, _ => exact (t2 2 (by decide) hji).trans (hM.facts 2 (by decide) hu)
            | 3, _ => exact (t2 3 (by decide) hji).trans (hM.facts 3 (by decide) hu)
            | 4, _ => exact (t2 4 (by decide) hji).trans (hM.facts 4 (by decide) hu)
            | 5, _ => exact (t2 5 (by decide) hji).trans (hM.facts 5 (by decide) hu)
            | 6, _ => exact (t2 6 (by decide) hji).trans (hM.facts 6 (by decide) hu)
            | 7, _ => exact (t2 7 (by decide) hji).trans (hM.facts 7 (by decide) hu)
            | 8, _ =>
              obtain ⟨p', e', a, h'⟩ := hM.facts 8 (by decide) hu
              have hne : p' ≠ p := by have h9 := hM.apart 8 9 (by decide) (by decide) rfl rfl hu u1 (by decide); rw [e', ep] at h9; exact h9
              exact ⟨p', (t2 8 (by decide) hji).trans e', a, (h'.far (p := ⟨p, 0, none⟩) hne _)⟩
            | 9, _ => exact ⟨p, (t2 9 (by decide) (by decide)).trans ep, _, hset⟩
            | 10, _ =>
              obtain ⟨p', e', h'⟩ := hM.facts 10 (by decide) hu
              have hne : p' ≠ p := by have h9 := hM.apart 8 9 (by decide) (by decide) rfl rfl (hup10 hu) u1 (by decide); rw [e', ep] at h9; exact h9
              exact ⟨p', (t2 8 (by decide) (by decide)).trans e', (h'.far (p := ⟨p, 0, none⟩) hne _)⟩
            | 11, _ => exact absurd rfl hji
            | n + 12, hj => exact absurd hj (by simp)
          | n + 12, ho => simp at ho
        case hend =>
          intro listed ac W hupp hk hM
          have hbW : Below w7.heap.size w7 W := (Below.refl _ _).drew.trans hM.below
          obtain ⟨pa, ea, hpa⟩ := hM.facts 10 (by decide) (hupp 10 (by decide))
          obtain ⟨pb, eb, hpb⟩ := hM.facts 11 (by decide) (hupp 11 (by decide))
          have y10 : Act.slot ac 10 = .pointer (some ⟨pa, 0, none⟩) := ea
          have y11 : Act.slot ac 11 = .pointer (some ⟨pb, 0, none⟩) := eb
          refine hK _ _ ?_
          rw [hk.form (by kernel_rfl)]
          simp only [putsAll, Option.getD_some, Act.put, List.setIfInBounds_toArray, List.set_cons_zero, List.set_cons_succ, y10, y11]
          go_meet
          exact ⟨pa, pb, rfl, rfl, hpa, hpb, hbW⟩
      case rest =>
      obtain ⟨pa, pb, rfl, rfl, hpa, hpb, hb8⟩ := hcut
      have HB8 := Lib.hid (HB7.out.trans (hb8.mono HB7.out.size))
      have HK8 := Lib.hid (HK7.out.now hb8)
      have HR8 := Lib.hid (HR7.out.now hb8)
      have HPA := Lib.hid hpa
      have HPB := Lib.hid hpb
      obtain ⟨w8, hw8⟩ : ∃ w8, wc = w8 := ⟨_, rfl⟩
      rw [hw8] at HB8 HK8 HR8 HPA HPB ⊢
      clear hw8 hb8 hpa hpb HB7 HK7 HN7 HR7 haw0 hbw0 hawr hbwr hxi2 hxk2
      have i0 : (0 : Int) < ((rs.length + 1 : Nat) : Int) := by omega
      have HRL : Hid (rs.length + 1 ≤ 1000000) := by show _ ≤ _; have := HSM.out.1; simp at this; omega
      have HCR : Hid (∀ r ∈ hd :: rs, r.length ≤ 40) := Lib.hid (wide_len HQ1.out)
      go_wp2_with fail
      go_loopw [12, 69] (fun ov iv wr => ∃ k : Nat, iv = .int .i64 (k : Int) ∧ k ≤ rs.length + 1 ∧ Hid (Below w8.heap.size w8 wr) ∧ Hid (OwnR 1 RStrs (fun b => b < w8.heap.size) wr w8.heap.size 51 ov (((hd :: rs).take k).map (swpR a b)))) (fun _ iv _ => rs.length + 1 - (intOf iv).toNat)
      case atStart => exact ⟨0, rfl, Nat.zero_le _, Lib.hid (Below.refl _ _), Lib.hid OwnR.nil⟩
      case round =>
        obtain ⟨k, rfl, hk, HBk, HOk⟩ := hrel
        obtain ⟨Ao, co, hov⟩ := HOk.out.open_
        have hlk : (((hd :: rs).take k).map (swpR a b)).length = k := by rw [List.length_map, List.length_take, List.length_cons]; omega
        rw [hlk] at hov
        subst hov
        have HLK := Lib.hid hlk
        clear hlk
        have hrl := HRL.out
        by_cases hlt : k < rs.length + 1
        · obtain ⟨b1, o1, r, u, hA1, hD1, hx1, hu1, hc1⟩ := SlSS.at_ (HR8.out.now HBk.out) hlt
          injection hA1 with hA1
          injection hA1 with e1 e2 _
          subst e1 e2
          have hrn := HAL.out r (List.mem_of_getElem? hx1)
          have hr40 := HCR.out r (List.mem_of_getElem? hx1)
          have HTK : Hid (((hd :: rs).take (k + 1)).map (swpR a b) = ((hd :: rs).take k).map (swpR a b) ++ [swpR a b r]) := Lib.hid (by rw [List.take_add_one, hx1, List.map_append]; rfl)
          obtain ⟨w9, hw9⟩ : ∃ w9, wr = w9 := ⟨_, rfl⟩
          rw [hw9] at HBk HOk hD1 hu1 hc1 ⊢
          have HCN := Lib.hid (clone_any u r w9 hu1 (by rw [hrn]; have := HN0.out; omega) (by omega))
          obtain ⟨Au, cu, rfl, _, _, _⟩ := hu1.open_
          rw [hrn] at HCN hc1
          have HRN := Lib.hid hrn
          have HLE : Hid (∀ l ∈ swpR a b r, l.length ≤ 1000000) := Lib.hid (swp_le (fun c hc => (HSM.out.2 r (List.mem_of_getElem? hx1)).2 c hc))
          have HR9 := Lib.hid (show r.length = n from hrn)
          clear hrn hx1 hD1 hw9 hu1 hr40
          go_wp2_with fail
          (with_reducible refine HCN.out.mono ?_)
          rintro _ w10 ⟨g, cap, rfl, hcl, hb10⟩
          have HCL := Lib.hid hcl
          have HB10 := Lib.hid hb10
          have HG := Lib.hid hcl.from_
          have HP9 := Lib.hid (HPA.out.below HBk.out HPA.out.lt)
          have HQ9 := Lib.hid (HPB.out.below HBk.out HPB.out.lt)
          have HPA10 : Hid (Blk w10 pa 3 #[.int .i64 (a : Int)]) := Lib.hid (HP9.out.now hb10)
          have HPB10 : Hid (Blk w10 pb 3 #[.int .i64 (b : Int)]) := Lib.hid (HQ9.out.now hb10)
          have HPL : Hid (pa < w9.heap.size ∧ pb < w9.heap.size) := ⟨HP9.out.lt, HQ9.out.lt⟩
          clear hcl hb10 hc1 HCN
          go_upto_region 14 with fail
          go_cut [] from 75 to 88 (fun W => OwnCells W w9.heap.size g cap (swpR a b r) ∧ Below w9.heap.size w9 W)
          case first =>
            clear HMP HAM HSM HWP HRV HIM HMD HMK HZ HQ1 HQ2 HQ4 HDL HB8 HK8 HR8 HAL HN HPA HPB HRL HCR HBk HOk HLK HTK
            rename_i J1 K1 hJ hK
            have z0 := HP9.out.c1
            have z1 := HQ9.out.c1
            have ia0 : (0 : Int) ≤ (a : Int) := by omega
            have ia1 : (a : Int) < (n : Int) := by have := HAN.out.1; omega
            have ib0 : (0 : Int) ≤ (b : Int) := by omega
            have ib1 : (b : Int) < (n : Int) := by have := HAN.out.2; omega
            refine wp_region_rel3 (by kernel_rfl) (by kernel_rfl) (by kernel_rfl) (fun U W => Below w9.heap.size w9 W ∧ ∃ x, OwnCells W w9.heap.size g cap x ∧ (¬ U 13 → x = r) ∧ (U 13 → ¬ U 15 → x = r.set a (r.getD b [])) ∧ (U 15 → x = swpR a b r)) (swF g n cap a b r (fun W => OwnCells W w9.heap.size g cap (swpR a b r) ∧ Below w9.heap.size w9 W)) (fun _ _ => false) ?h0 ?hstep ?hend ?hall
            case hall => exact hall_of (by kernel_rfl)
            case h0 => exact ⟨HB10.out.drew, r, HCL.out, fun _ => rfl, fun h => h.elim, fun h => h.elim⟩
            case hstep =>
              intro i o hop listed ac W hsh hi hk hR hM
              have hni := ready_not hi
              have nd : ∀ j : Nat, ∀ k, (fun _ _ => false : Nat → Nat → Bool) j k = true → ¬ Up listed k := fun j k h => by cases h
              obtain ⟨hbW, x, hx, hx1, hx2, hx3⟩ := hR
              have p0 := (hbW.cell (p := ⟨pa, 0, none⟩) HPL.out.1)
              have p1 := (hbW.cell (p := ⟨pb, 0, none⟩) HPL.out.2)
              match i, hop with
              | 0, hop =>
                injection hop with hop
                subst hop
                have e0 : ac.eval (.tmp 15) = .slice (some ⟨g, 0, none⟩) n cap := hk.same (s := 15) (by kernel_rfl)
                exact wpM_moveV _ _ rfl e0 ⟨_, rfl, ⟨hbW, x, hx, fun h => hx1 (fun h' => h (.inr h')), fun h h' => hx2 (h.resolve_left (by decide)) (fun h'' => h' (.inr h'')), fun h => hx3 (h.resolve_left (by decide))⟩, fun u hu => hu (by simp), fun j _ _ _ _ u h => h⟩
              | 1, hop =>
                injection hop with hop
                subst hop
                have e0 : ac.eval (.tmp 10) = .pointer (some ⟨pa, 0, none⟩) := hk.same (s := 10) (by kernel_rfl)
                have hc : W.cell? ⟨pa, 0, none⟩ = some (.int .i64 (a : Int)) := p0.trans z0
                exact wpM_load _ _ _ (.int .i64 (a : Int)) rfl e0 (by simp [go_sem, hc]) ⟨_, rfl, ⟨hbW, x, hx, fun h => hx1 (fun h' => h (.inr h')), fun h h' => hx2 (h.resolve_left (by decide)) (fun h'' => h' (.inr h'')), fun h => hx3 (h.resolve_left (by decide))⟩, fun u hu => hu (by simp), fun j _ _ _ _ u h => h⟩
              | 2, hop =>
                injection hop with hop
                subst hop
                have e0 : ac.eval (.tmp 15) = .slice (some ⟨g, 0, none⟩) n cap := hk.same (s := 15) (by kernel_rfl)
                exact wpM_moveV _ _ rfl e0 ⟨_, rfl, ⟨hbW, x, hx, fun h => hx1 (fun h' => h (.inr h')), fun h h' => hx2 (h.resolve_left (by decide)) (fun h'' => h' (.inr h'')), fun h => hx3 (h.resolve_left (by decide))⟩, fun u hu => hu (by simp), fun j _ _ _ _ u h => h⟩
              | 3, hop =>
                injection hop with hop
                subst hop
                have e0 : ac.eval (.tmp 11) = .pointer (some ⟨pb, 0, none⟩) := hk.same (s := 11) (by kernel_rfl)
                have hc : W.cell? ⟨pb, 0, none⟩ = some (.int .i64 (b : Int)) := p1.trans z1
                exact wpM_load _ _ _ (.int .i64 (b : Int)) rfl e0 (by simp [go_sem, hc]) ⟨_, rfl, ⟨hbW, x, hx, fun h => hx1 (fun h' => h (.inr h')), fun h h' => hx2 (h.resolve_left (by decide)) (fun h'' => h' (.inr h'')), fun h => hx3 (h.resolve_left (by decide))⟩, fun u hu => hu (by simp), fun j _ _ _ _ u h => h⟩
              | 4, hop =>
                injection hop with hop
                subst hop
                have e0 : ac.eval (.tmp 15) = .slice (some ⟨g, 0, none⟩) n cap := hk.same (s := 15) (by kernel_rfl)
                exact wpM_moveV _ _ rfl e0 ⟨_, rfl, ⟨hbW, x, hx, fun h => hx1 (fun h' => h (.inr h')), fun h h' => hx2 (h.resolve_left (by decide)) (fun h'' => h' (.inr h'')), fun h => hx3 (h.resolve_left (by decide))⟩, fun u hu => hu (by simp), fun j _ _ _ _ u h => h⟩
              | 5, hop =>
                injection hop with hop
                subst hop
                have e0 : ac.eval (.tmp 11) = .pointer (some ⟨pb, 0, none⟩) := hk.same (s := 11) (by kernel_rfl)
                have hc : W.cell? ⟨pb, 0, none⟩ = some (.int .i64 (b : Int)) := p1.trans z1
                exact wpM_load _ _ _ (.int .i64 (b : Int)) rfl e0 (by simp [go_sem, hc]) ⟨_, rfl, ⟨hbW, x, hx, fun h => hx1 (fun h' => h (.inr h')), fun h h' => hx2 (h.resolve_left (by decide)) (fun h'' => h' (.inr h'')), fun h => hx3 (h.resolve_left (by decide))⟩, fun u hu => hu (by simp), fun j _ _ _ _ u h => h⟩
              | 6, hop =>
                injection hop with hop
                subst hop
                have e0 : ac.eval (.tmp 79) = .slice (some ⟨g, 0, none⟩) n cap := hM 4 (by decide) (ready_up hi (by kernel_rfl)) (nd 4)
                have e1 : ac.eval (.tmp 80) = .int .i64 (b : Int) := hM 5 (by decide) (ready_up hi (by kernel_rfl)) (nd 5)
                exact wpM_run (.pointer (some ⟨g, b, none⟩)) W (by simp only [execOp, e0, e1]; simp [go_sem, ib0, ib1]) ⟨_, rfl, ⟨hbW, x, hx, fun h => hx1 (fun h' => h (.inr h')), fun h h' => hx2 (h.resolve_left (by decide)) (fun h'' => h' (.inr h'')), fun h => hx3 (h.resolve_left (by decide))⟩, fun u hu => hu (by simp), fun j _ _ _ _ u h => h⟩
              | 7, hop =>
                injection hop with hop
                subst hop
                have e0 : ac.eval (.tmp 81) = .pointer (some ⟨g, b, none⟩) := hM 6 (by decide) (ready_up hi (by kernel_rfl)) (nd 6)
                have h13 : ¬ Up listed 13 := fun h => hni (hsh.up h (by kernel_rfl))
                have hxr := hx1 h13
                rw [hxr] at hx
                have hc : W.cell? ⟨g, b, none⟩ = some (.string (bsOf (r.getD b []))) := hx.cell (gd_at (by rw [HRN.out]; exact HAN.out.2))
                rw [← hxr] at hx
                exact wpM_load _ _ _ (.string (bsOf (r.getD b []))) rfl e0 (by simp [go_sem, hc]) ⟨_, rfl, ⟨hbW, x, hx, fun h => hx1 (fun h' => h (.inr h')), fun h h' => hx2 (h.resolve_left (by decide)) (fun h'' => h' (.inr h'')), fun h => hx3 (h.resolve_left (by decide))⟩, fun u hu => hu (by simp), fun j _ _ _ _ u h => h⟩
              | 8, hop =>
                injection hop with hop
                subst hop
                have e0 : ac.eval (.tmp 15) = .slice (some ⟨g, 0, none⟩) n cap := hk.same (s := 15) (by kernel_rfl)
                exact wpM_moveV _ _ rfl e0 ⟨_, rfl, ⟨hbW, x, hx, fun h => hx1 (fun h' => h (.inr h')), fun h h' => hx2 (h.resolve_left (by decide)) (fun h'' => h' (.inr h'')), fun h => hx3 (h.resolve_left (by decide))⟩, fun u hu => hu (by simp), fun j _ _ _ _ u h => h⟩
              | 9, hop =>
                injection hop with hop
                subst hop
                have e0 : ac.eval (.tmp 10) = .pointer (some ⟨pa, 0, none⟩) := hk.same (s := 10) (by kernel_rfl)
                have hc : W.cell? ⟨pa, 0, none⟩ = some (.int .i64 (a : Int)) := p0.trans z0
                exact wpM_load _ _ _ (.int .i64 (a : Int)) rfl e0 (by simp [go_sem, hc]) ⟨_, rfl, ⟨hbW, x, hx, fun h => hx1 (fun h' => h (.inr h')), fun h h' => hx2 (h.resolve_left (by decide)) (fun h'' => h' (.inr h'')), fun h => hx3 (h.resolve_left (by decide))⟩, fun u hu => hu (by simp), fun j _ _ _ _ u h => h⟩
              | 10, hop =>
                injection hop with hop
                subst hop
                have e0 : ac.eval (.tmp 83) = .slice (some ⟨g, 0, none⟩) n cap := hM 8 (by decide) (ready_up hi (by kernel_rfl)) (nd 8)
                have e1 : ac.eval (.tmp 84) = .int .i64 (a : Int) := hM 9 (by decide) (ready_up hi (by kernel_rfl)) (nd 9)
                exact wpM_run (.pointer (some ⟨g, a, none⟩)) W (by simp only [execOp, e0, e1]; simp [go_sem, ia0, ia1]) ⟨_, rfl, ⟨hbW, x, hx, fun h => hx1 (fun h' => h (.inr h')), fun h h' => hx2 (h.resolve_left (by decide)) (fun h'' => h' (.inr h'')), fun h => hx3 (h.resolve_left (by decide))⟩, fun u hu => hu (by simp), fun j _ _ _ _ u h => h⟩
              | 11, hop =>
                injection hop with hop
                subst hop
                have e0 : ac.eval (.tmp 85) = .pointer (some ⟨g, a, none⟩) := hM 10 (by decide) (ready_up hi (by kernel_rfl)) (nd 10)
                have h13 : ¬ Up listed 13 := fun h => hni (hsh.up h (by kernel_rfl))
                have hxr := hx1 h13
                rw [hxr] at hx
                have hc : W.cell? ⟨g, a, none⟩ = some (.string (bsOf (r.getD a []))) := hx.cell (gd_at (by rw [HRN.out]; exact HAN.out.1))
                rw [← hxr] at hx
                exact wpM_load _ _ _ (.string (bsOf (r.getD a []))) rfl e0 (by simp [go_sem, hc]) ⟨_, rfl, ⟨hbW, x, hx, fun h => hx1 (fun h' => h (.inr h')), fun h h' => hx2 (h.resolve_left (by decide)) (fun h'' => h' (.inr h'')), fun h => hx3 (h.resolve_left (by decide))⟩, fun u hu => hu (by simp), fun j _ _ _ _ u h => h⟩
              | 12, hop =>
                injection hop with hop
                subst hop
                have e0 : ac.eval (.tmp 75) = .slice (some ⟨g, 0, none⟩) n cap := hM 0 (by decide) (ready_up hi (by kernel_rfl)) (nd 0)
                have e1 : ac.eval (.tmp 76) = .int .i64 (a : Int) := hM 1 (by decide) (ready_up hi (by kernel_rfl)) (nd 1)
                exact wpM_run (.pointer (some ⟨g, a, none⟩)) W (by simp only [execOp, e0, e1]; simp [go_sem, ia0, ia1]) ⟨_, rfl, ⟨hbW, x, hx, fun h => hx1 (fun h' => h (.inr h')), fun h h' => hx2 (h.resolve_left (by decide)) (fun h'' => h' (.inr h'')), fun h => hx3 (h.resolve_left (by decide))⟩, fun u hu => hu (by simp), fun j _ _ _ _ u h => h⟩
              | 13, hop =>
                injection hop with hop
                subst hop
                have e0 : ac.eval (.tmp 87) = .pointer (some ⟨g, a, none⟩) := hM 12 (by decide) (ready_up hi (by kernel_rfl)) (nd 12)
                have e1 : ac.eval (.tmp 82) = .string (bsOf (r.getD b [])) := hM 7 (by decide) (ready_up hi (by kernel_rfl)) (nd 7)
                have hfz : W.frozen? ⟨g, a, none⟩ = false := hx.frozen a
                have h15 : ¬ Up listed 15 := fun h => hni (hsh.up h (by kernel_rfl))
                have hxr := hx1 hni
                subst hxr
                have hc : W.cell? ⟨g, a, none⟩ = some (.string (bsOf (x.getD a []))) := hx.cell (gd_at (by rw [HRN.out]; exact HAN.out.1))
                have hs := hx.set_ a (x.getD b [])
                refine wpM_store _ _ _ _ _ (W.setCell ⟨g, a, none⟩ (.string (bsOf (x.getD b [])))) () rfl e0 e1 (by simp [go_sem, hc, hfz]) ⟨_, rfl, ⟨hbW.setCell (p := ⟨g, a, none⟩) HG.out _, _, hs, fun h => absurd (.inl rfl) h, fun _ _ => rfl, fun h => ?_⟩, fun u _ => trivial, fun j hj hji hu _ u h => ?_⟩
                · rcases h with h | h
                  · exact absurd h (by decide)
                  · exact absurd h h15
                · by_cases hj15 : j = 15
                  · rw [hj15] at hu; exact absurd hu h15
                  · match j, hj, hj15, h with
                    | 0, _, _, h => exact h
                    | 1, _, _, h => exact h
                    | 2, _, _, h => exact h
                    | 3, _, _, h => exact h
                    | 4, _, _, h => exact h
                    | 5, _, _, h => exact h
                    | 6, _, _, h => exact h
                    | 7, _, _, h => exact h
                    | 8, _, _, h => exact h
                    | 9, _, _, h => exact h
                    | 10, _, _, h => exact h
                    | 11, _, _, h => exact h
                    | 12, _, _, h => exact h
                    | 13, _, _, h => exact h
                    | 14, _, _, h => exact h
                    | 15, _, hj15, _ => exact absurd rfl hj15
                    | n + 16, hj, _, _ => exact absurd hj (by simp)
              | 14, hop =>
                injection hop with hop
                subst hop
                have e0 : ac.eval (.tmp 77) = .slice (some ⟨g, 0, none⟩) n cap := hM 2 (by decide) (ready_up hi (by kernel_rfl)) (nd 2)
                have e1 : ac.eval (.tmp 78) = .int .i64 (b : Int) := hM 3 (by decide) (ready_up hi (by kernel_rfl)) (nd 3)
                exact wpM_run (.pointer (some ⟨g, b, none⟩)) W (by simp only [execOp, e0, e1]; simp [go_sem, ib0, ib1]) ⟨_, rfl, ⟨hbW, x, hx, fun h => hx1 (fun h' => h (.inr h')), fun h h' => hx2 (h.resolve_left (by decide)) (fun h'' => h' (.inr h'')), fun h => hx3 (h.resolve_left (by decide))⟩, fun u hu => hu (by simp), fun j _ _ _ _ u h => h⟩
              | 15, hop =>
                injection hop with hop
                subst hop
                have e0 : ac.eval (.tmp 88) = .pointer (some ⟨g, b, none⟩) := hM 14 (by decide) (ready_up hi (by kernel_rfl)) (nd 14)
                have e1 : ac.eval (.tmp 86) = .string (bsOf (r.getD a [])) := hM 11 (by decide) (ready_up hi (by kernel_rfl)) (nd 11)
                have hfz : W.frozen? ⟨g, b, none⟩ = false := hx.frozen b
                have u13 := ready_up hi (show Region.waitsFor .any _ 15 13 = true by kernel_rfl)
                have hxr := hx2 u13 hni
                subst hxr
                have hc : ∃ y, W.cell? ⟨g, b, none⟩ = some y := ⟨_, hx.cell (List.getElem?_eq_getElem (by rw [List.length_set, HRN.out]; exact HAN.out.2))⟩
                obtain ⟨y, hc⟩ := hc
                have hs := hx.set_ b (r.getD a [])
                refine wpM_store _ _ _ _ _ (W.setCell ⟨g, b, none⟩ (.string (bsOf (r.getD a [])))) () rfl e0 e1 (by simp [go_sem, hc, hfz]) ⟨_, rfl, ⟨hbW.setCell (p := ⟨g, b, none⟩) HG.out _, _, hs, fun h => absurd (.inr u13) h, fun _ h => absurd (.inl rfl) h, fun _ => rfl⟩, fun u _ => ⟨hs, hbW.setCell (p := ⟨g, b, none⟩) HG.out _⟩, fun j hj hji _ _ u h => ?_⟩
                match j, hj, hji, h with
                | 0, _, _, h => exact h
                | 1, _, _, h => exact h
                | 2, _, _, h => exact h
                | 3, _, _, h => exact h
                | 4, _, _, h => exact h
                | 5, _, _, h => exact h
                | 6, _, _, h => exact h
                | 7, _, _, h => exact h
                | 8, _, _, h => exact h
                | 9, _, _, h => exact h
                | 10, _, _, h => exact h
                | 11, _, _, h => exact h
                | 12, _, _, h => exact h
                | 13, _, _, h => exact h
                | 14, _, _, h => exact h
                | 15, _, hji, _ => exact absurd rfl hji
                | n + 16, hj, _, _ => exact absurd hj (by simp)
              | n + 16, hop => simp at hop
            case hend =>
              intro ac W U hk hR hM
              have h15 := hM 15 (by decide) (fun k => rfl)
              refine hK _ _ ?_
              rw [hk.form (by kernel_rfl)]
              simp only [putsAll, Option.getD_some, Act.put, List.setIfInBounds_toArray, List.set_cons_zero, List.set_cons_succ]
              go_meet
              exact h15
          case rest =>
          obtain ⟨hcl, hbw⟩ := hcut
          obtain ⟨w11, hw11⟩ : ∃ w11, wc = w11 := ⟨_, rfl⟩
          rw [hw11] at hcl hbw ⊢
          have HOW2 := Lib.hid (OwnR.now HOk.out RStrs.kept hbw)
          have HB11 := Lib.hid (HBk.out.trans (hbw.mono HBk.out.size))
          have HOL := Lib.hid (fun g' (h : (Value.slice Ao k co).ownBlock = some g') => (OwnR.lt HOk.out g' h).2)
          have HREV : Hid (RStrs (Off (fun b => b < w8.heap.size) w11 (.slice Ao k co)) w11 (swpR a b r) [.slice (some ⟨g, 0, none⟩) n cap]) := Lib.hid (by
            refine ⟨_, rfl, ?_⟩
            have hsl : (swpR a b r).length = n := by rw [swpR_len]; exact HRN.out
            have h1 := hcl.1
            rw [hsl] at h1
            have h2 : w11.ownsRow w9.heap.size 9 1 (.slice (some ⟨g, 0, none⟩) n cap) (swpR a b r).length ((swpR a b r).map fun l => Value.string (bsOf l)) := by rw [hsl]; exact h1
            refine own_slPD h2 (fun g' e => ?_) (fun l hl => by have := HLE.out l hl; unfold maxLen; omega)
            injection e with e
            have e : g = g' := e
            subst e
            refine ⟨hcl.lt, fun e => ?_, fun e => ?_⟩
            · have := HOL.out g e; have := hcl.from_; omega
            · have := hcl.from_; have e : g < w8.heap.size := e; have := HBk.out.size; omega)
          have hsz8 : w8.heap.size ≤ w11.heap.size := HB11.out.size
          clear hw11 hcl hbw HOk HBk HCL HB10 HPA10 HPB10
          go_wp2_with (at_builtin; refine wpList_pushR (X := fun b => b < w8.heap.size) (base := w8.heap.size) appStrs RStrs.kept rfl (.tmp 89) (.tmp 91) rfl w11 [.slice (some ⟨g, 0, none⟩) n cap] rfl (by intro v hv; simp at hv; rw [hv]; rfl) _ (((hd :: rs).take k).map (swpR a b)) (swpR a b r) rfl HOW2.out HREV.out rfl (by rw [HLK.out]; omega) hsz8 ?_; intro v' w12 hown hgr hat; have HOW3 := Lib.hid hown; have HB12 := Lib.hid (HB11.out.grown hgr HB11.out.size (fun g hg => (OwnR.lt HOW2.out g hg).1)); clear hown hgr hat)
          go_roundw
          case rel => exact ⟨k + 1, by go_num, by omega, HB12, Lib.hid (by rw [HTK.out]; exact HOW3.out)⟩
          case measure => simp [intOf]; omega
        · have hkk : k = rs.length + 1 := by omega
          have HOT := Lib.hid (show OwnR 1 RStrs (fun b => b < w8.heap.size) wr w8.heap.size 51 (.slice Ao k co) ((hd :: rs).map (swpR a b)) by have := HOk.out; rwa [List.take_of_length_le (by rw [List.length_cons]; omega)] at this)
          obtain ⟨w9, hw9⟩ : ∃ w9, wr = w9 := ⟨_, rfl⟩
          rw [hw9] at HOT HBk ⊢
          have HB9 := Lib.hid (HB8.out.trans (HBk.out.mono HB8.out.size))
          have HK9 := Lib.hid (HK8.out.below HBk.out HK8.out.lt)
          have HP9 := Lib.hid (HPA.out.below HBk.out HPA.out.lt)
          have HQ9 := Lib.hid (HPB.out.below HBk.out HPB.out.lt)
          have HS9 := Lib.hid HBk.out.size
          have HKE : Hid (k = rs.length + 1) := hkk
          have hn1 : ¬ k ≤ rs.length := by omega
          have hn2 : rs.length < k := by omega
          have hn3 : ¬ (k : Int) < (rs.length : Int) + 1 := by omega
          have hn4 : ¬ (k : Int) ≤ (rs.length : Int) := by omega
          clear hw9 HOk HBk hkk hk HK8 HPA HPB
          have HM17 := Lib.hid (Blk.new w9 33 #[.int .i64 m.cas, .int .i64 m.act, .int .i64 m.res, .int .i64 m.life, .int .i64 m.time, .slice Ad m.data.length cd, .slice Ak m.kinds.length ck, .int .u8 z])
          have HBX := Lib.hid (bone w9 (.cells #[.int .i64 m.cas, .int .i64 m.act, .int .i64 m.res, .int .i64 m.life, .int .i64 m.time, .slice Ad m.data.length cd, .slice Ak m.kinds.length ck, .int .u8 z] 33))
          obtain ⟨c0, c1, c2, c3, c4, c5, c6, c7⟩ := HK9.out.c8m
          go_upto_region 19 with fail
          go_cut [] from 96 to 121 (fun W => Blk W w9.heap.size 33 #[.int .i64 (mvZ a b m.cas), .int .i64 (mvZ a b m.act), .int .i64 (mvZ a b m.res), .int .i64 (mvZ a b m.life), .int .i64 (mvZ a b m.time), .slice none 0 0, .slice Ak m.kinds.length ck, .int .u8 z] ∧ Below w9.heap.size w9 W)
          case first =>
            have HR0 : Hid (RelM w9 w9.heap.size (.slice Ak m.kinds.length ck) (.int .u8 z) (w9.alloc (.cells #[.int .i64 m.cas, .int .i64 m.act, .int .i64 m.res, .int .i64 m.life, .int .i64 m.time, .slice Ad m.data.length cd, .slice Ak m.kinds.length ck, .int .u8 z] 33))) := Lib.hid ⟨HBX.out, _, HM17.out, rfl, rfl, rfl⟩
            clear HMP HAM HSM HWP HRV HIM HMD HMK HZ HQ1 HQ2 HQ4 HDL HAL HN HR8 HRL HCR HOT HB9 HS9 HB8 HAN HN0 HH HM17 HBX c0 c1 c2 c3 c4 c5 c6 c7
            rename_i J1 K1 hJ hK
            refine wp_region_rel (by kernel_rfl) (by kernel_rfl) (by kernel_rfl) (fun W => RelM w9 w9.heap.size (.slice Ak m.kinds.length ck) (.int .u8 z) W) (mpF w.heap.size w9.heap.size pa pb a b m) ?h0 ?hstep ?hend ?hall
            case hall => exact hall_of (by kernel_rfl)
            case h0 => exact HR0.out.drew
            case hstep =>
              intro i o hop listed ac W hsh hi hk hR hM
              obtain ⟨c0, c1, c2, c3, c4, c5, c6, c7⟩ := (HK9.out.now hR.below).c8m
              have za := (hR.below.cell (p := ⟨pa, 0, none⟩) HP9.out.lt).trans HP9.out.c1
              have zb := (hR.below.cell (p := ⟨pb, 0, none⟩) HQ9.out.lt).trans HQ9.out.c1
              match i, hop with
              | 0, hop =>
                injection hop with hop
                subst hop
                have e0 : ac.eval (.tmp 16) = .func (.func 27) #[] #[.pointer (some ⟨pa, 0, none⟩), .pointer (some ⟨pb, 0, none⟩)] := hk.same (s := 16) (by kernel_rfl)
                exact wpM_moveV _ _ rfl e0 ⟨_, rfl, hR, fun u hu => hu (by simp), fun j _ _ _ u h => h⟩
              | 1, hop =>
                injection hop with hop
                subst hop
                have e0 : ac.eval (.tmp 5) = .pointer (some ⟨w.heap.size, 0, none⟩) := hk.same (s := 5) (by kernel_rfl)
                exact wpM_run (.pointer (some ⟨w.heap.size, 0, none⟩)) W (by simp only [execOp, e0]; simp [go_sem]) ⟨_, rfl, hR, fun u hu => hu (by simp), fun j _ _ _ u h => h⟩
              | 2, hop =>
                injection hop with hop
                subst hop
                have e0 : ac.eval (.tmp 97) = .pointer (some ⟨w.heap.size, 0, none⟩) := hM 1 (by decide) (ready_up hi (by kernel_rfl))
                exact wpM_load _ _ _ (.int .i64 m.cas) rfl e0 (by simp [go_sem, c0]) ⟨_, rfl, hR, fun u hu => hu (by simp), fun j _ _ _ u h => h⟩
              | 3, hop =>
                injection hop with hop
                subst hop
                have e0 : ac.eval (.tmp 96) = .func (.func 27) #[] #[.pointer (some ⟨pa, 0, none⟩), .pointer (some ⟨pb, 0, none⟩)] := hM 0 (by decide) (ready_up hi (by kernel_rfl))
                have e1 : ac.eval (.tmp 98) = .int .i64 m.cas := hM 2 (by decide) (ready_up hi (by kernel_rfl))
                refine wpM_callK enters_mv _ _ #[.int .i64 m.cas] _ _ rfl e0 (by simp only [List.map_toArray, List.map_cons, List.map_nil, e1]) ((mv_any m.cas a b pa pb W za zb).mono ?_)
                rintro e W' ⟨rfl, rfl⟩
                exact ⟨_, rfl, ⟨_, rfl, hR, fun u hu => hu (by simp), fun j _ _ _ u h => h⟩⟩
              | 4, hop =>
                injection hop with hop
                subst hop
                have e0 : ac.eval (.tmp 16) = .func (.func 27) #[] #[.pointer (some ⟨pa, 0, none⟩), .pointer (some ⟨pb, 0, none⟩)] := hk.same (s := 16) (by kernel_rfl)
                exact wpM_moveV _ _ rfl e0 ⟨_, rfl, hR, fun u hu => hu (by simp), fun j _ _ _ u h => h⟩
              | 5, hop =>
                injection hop with hop
                subst hop
                have e0 : ac.eval (.tmp 5) = .pointer (some ⟨w.heap.size, 0, none⟩) := hk.same (s := 5) (by kernel_rfl)
                exact wpM_run (.pointer (some ⟨w.heap.size, 1, none⟩)) W (by simp only [execOp, e0]; simp [go_sem]) ⟨_, rfl, hR, fun u hu => hu (by simp), fun j _ _ _ u h => h⟩
              | 6, hop =>
                injection hop with hop
                subst hop
                have e0 : ac.eval (.tmp 101) = .pointer (some ⟨w.heap.size, 1, none⟩) := hM 5 (by decide) (ready_up hi (by kernel_rfl))
                exact wpM_load _ _ _ (.int .i64 m.act) rfl e0 (by simp [go_sem, c1]) ⟨_, rfl, hR, fun u hu => hu (by simp), fun j _ _ _ u h => h⟩
              | 7, hop =>
                injection hop with hop
                subst hop
                have e0 : ac.eval (.tmp 100) = .func (.func 27) #[] #[.pointer (some ⟨pa, 0, none⟩), .pointer (some ⟨pb, 0, none⟩)] := hM 4 (by decide) (ready_up hi (by kernel_rfl))
                have e1 : ac.eval (.tmp 102) = .int .i64 m.act := hM 6 (by decide) (ready_up hi (by kernel_rfl))
                refine wpM_callK enters_mv _ _ #[.int .i64 m.act] _ _ rfl e0 (by simp only [List.map_toArray, List.map_cons, List.map_nil, e1]) ((mv_any m.act a b pa pb W za zb).mono ?_)
                rintro e W' ⟨rfl, rfl⟩
                exact ⟨_, rfl, ⟨_, rfl, hR, fun u hu => hu (by simp), fun j _ _ _ u h => h⟩⟩
              | 8, hop =>
                injection hop with hop
                subst hop
                have e0 : ac.eval (.tmp 16) = .func (.func 27) #[] #[.pointer (some ⟨pa, 0, none⟩), .pointer (some ⟨pb, 0, none⟩)] := hk.same (s := 16) (by kernel_rfl)
                exact wpM_moveV _ _ rfl e0 ⟨_, rfl, hR, fun u hu => hu (by simp), fun j _ _ _ u h => h⟩
              | 9, hop =>
                injection hop with hop
                subst hop
                have e0 : ac.eval (.tmp 5) = .pointer (some ⟨w.heap.size, 0, none⟩) := hk.same (s := 5) (by kernel_rfl)
                exact wpM_run (.pointer (some ⟨w.heap.size, 2, none⟩)) W (by simp only [execOp, e0]; simp [go_sem]) ⟨_, rfl, hR, fun u hu => hu (by simp), fun j _ _ _ u h => h⟩
              | 10, hop =>
                injection hop with hop
                subst hop
                have e0 : ac.eval (.tmp 105) = .pointer (some ⟨w.heap.size, 2, none⟩) := hM 9 (by decide) (ready_up hi (by kernel_rfl))
                exact wpM_load _ _ _ (.int .i64 m.res) rfl e0 (by simp [go_sem, c2]) ⟨_, rfl, hR, fun u hu => hu (by simp), fun j _ _ _ u h => h⟩
              | 11, hop =>
                injection hop with hop
                subst hop
                have e0 : ac.eval (.tmp 104) = .func (.func 27) #[] #[.pointer (some ⟨pa, 0, none⟩), .pointer (some ⟨pb, 0, none⟩)] := hM 8 (by decide) (ready_up hi (by kernel_rfl))
                have e1 : ac.eval (.tmp 106) = .int .i64 m.res := hM 10 (by decide) (ready_up hi (by kernel_rfl))
                refine wpM_callK enters_mv _ _ #[.int .i64 m.res] _ _ rfl e0 (by simp only [List.map_toArray, List.map_cons, List.map_nil, e1]) ((mv_any m.res a b pa pb W za zb).mono ?_)
                rintro e W' ⟨rfl, rfl⟩
                exact ⟨_, rfl, ⟨_, rfl, hR, fun u hu => hu (by simp), fun j _ _ _ u h => h⟩⟩
              | 12, hop =>
                injection hop with hop
                subst hop
                have e0 : ac.eval (.tmp 16) = .func (.func 27) #[] #[.pointer (some ⟨pa, 0, none⟩), .pointer (some ⟨pb, 0, none⟩)] := hk.same (s := 16) (by kernel_rfl)
                exact wpM_moveV _ _ rfl e0 ⟨_, rfl, hR, fun u hu => hu (by simp), fun j _ _ _ u h => h⟩
              | 13, hop =>
                injection hop with hop
                subst hop
                have e0 : ac.eval (.tmp 5) = .pointer (some ⟨w.heap.size, 0, none⟩) := hk.same (s := 5) (by kernel_rfl)
                exact wpM_run (.pointer (some ⟨w.heap.size, 3, none⟩)) W (by simp only [execOp, e0]; simp [go_sem]) ⟨_, rfl, hR, fun u hu => hu (by simp), fun j _ _ _ u h => h⟩
              | 14, hop =>
                injection hop with hop
                subst hop
                have e0 : ac.eval (.tmp 109) = .pointer (some ⟨w.heap.size, 3, none⟩) := hM 13 (by decide) (ready_up hi (by kernel_rfl))
                exact wpM_load _ _ _ (.int .i64 m.life) rfl e0 (by simp [go_sem, c3]) ⟨_, rfl, hR, fun u hu => hu (by simp), fun j _ _ _ u h => h⟩
              | 15, hop =>
                injection hop with hop
                subst hop
                have e0 : ac.eval (.tmp 108) = .func (.func 27) #[] #[.pointer (some ⟨pa, 0, none⟩), .pointer (some ⟨pb, 0, none⟩)] := hM 12 (by decide) (ready_up hi (by kernel_rfl))
                have e1 : ac.eval (.tmp 110) = .int .i64 m.life := hM 14 (by decide) (ready_up hi (by kernel_rfl))
                refine wpM_callK enters_mv _ _ #[.int .i64 m.life] _ _ rfl e0 (by simp only [List.map_toArray, List.map_cons, List.map_nil, e1]) ((mv_any m.life a b pa pb W za zb).mono ?_)
                rintro e W' ⟨rfl, rfl⟩
                exact ⟨_, rfl, ⟨_, rfl, hR, fun u hu => hu (by simp), fun j _ _ _ u h => h⟩⟩
              | 16, hop =>
                injection hop with hop
                subst hop
                have e0 : ac.eval (.tmp 16) = .func (.func 27) #[] #[.pointer (some ⟨pa, 0, none⟩), .pointer (some ⟨pb, 0, none⟩)] := hk.same (s := 16) (by kernel_rfl)
                exact wpM_moveV _ _ rfl e0 ⟨_, rfl, hR, fun u hu => hu (by simp), fun j _ _ _ u h => h⟩
              | 17, hop =>
                injection hop with hop
                subst hop
                have e0 : ac.eval (.tmp 5) = .pointer (some ⟨w.heap.size, 0, none⟩) := hk.same (s := 5) (by kernel_rfl)
                exact wpM_run (.pointer (some ⟨w.heap.size, 4, none⟩)) W (by simp only [execOp, e0]; simp [go_sem]) ⟨_, rfl, hR, fun u hu => hu (by simp), fun j _ _ _ u h => h⟩
              | 18, hop =>
                injection hop with hop
                subst hop
                have e0 : ac.eval (.tmp 113) = .pointer (some ⟨w.heap.size, 4, none⟩) := hM 17 (by decide) (ready_up hi (by kernel_rfl))
                exact wpM_load _ _ _ (.int .i64 m.time) rfl e0 (by simp [go_sem, c4]) ⟨_, rfl, hR, fun u hu => hu (by simp), fun j _ _ _ u h => h⟩
              | 19, hop =>
                injection hop with hop
                subst hop
                have e0 : ac.eval (.tmp 112) = .func (.func 27) #[] #[.pointer (some ⟨pa, 0, none⟩), .pointer (some ⟨pb, 0, none⟩)] := hM 16 (by decide) (ready_up hi (by kernel_rfl))
                have e1 : ac.eval (.tmp 114) = .int .i64 m.time := hM 18 (by decide) (ready_up hi (by kernel_rfl))
                refine wpM_callK enters_mv _ _ #[.int .i64 m.time] _ _ rfl e0 (by simp only [List.map_toArray, List.map_cons, List.map_nil, e1]) ((mv_any m.time a b pa pb W za zb).mono ?_)
                rintro e W' ⟨rfl, rfl⟩
                exact ⟨_, rfl, ⟨_, rfl, hR, fun u hu => hu (by simp), fun j _ _ _ u h => h⟩⟩
              | 20, hop =>
                injection hop with hop
                subst hop
                have e0 : ac.eval (.tmp 17) = .pointer (some ⟨w9.heap.size, 0, none⟩) := hk.same (s := 17) (by kernel_rfl)
                exact wpM_run (.pointer (some ⟨w9.heap.size, 0, none⟩)) W (by simp only [execOp, e0]; simp [go_sem]) ⟨_, rfl, hR, fun u hu => hu (by simp), fun j _ _ _ u h => h⟩
              | 21, hop =>
                injection hop with hop
                subst hop
                have e0 : ac.eval (.tmp 116) = .pointer (some ⟨w9.heap.size, 0, none⟩) := hM 20 (by decide) (ready_up hi (by kernel_rfl))
                have e1 : ac.eval (.tmp 99) = .int .i64 (mvZ a b m.cas) := hM 3 (by decide) (ready_up hi (by kernel_rfl))
                obtain ⟨y, hy⟩ := hR.cell (k := 0) (by decide)
                have fz := hR.frozen 0
                refine wpM_store _ _ _ _ _ (W.setCell ⟨w9.heap.size, 0, none⟩ (.int .i64 (mvZ a b m.cas))) () rfl e0 e1 (by simp [go_sem, hy, fz]) ⟨_, rfl, hR.set_ 0 (by decide) _, fun u _ => cell_put W hy _, fun j hj hji hu u h => ?_⟩
                match j, hj, hji, h with
                | 0, _, _, h => exact h
                | 1, _, _, h => exact h
                | 2, _, _, h => exact h
                | 3, _, _, h => exact h
                | 4, _, _, h => exact h
                | 5, _, _, h => exact h
                | 6, _, _, h => exact h
                | 7, _, _, h => exact h
                | 8, _, _, h => exact h
                | 9, _, _, h => exact h
                | 10, _, _, h => exact h
                | 11, _, _, h => exact h
                | 12, _, _, h => exact h
                | 13, _, _, h => exact h
                | 14, _, _, h => exact h
                | 15, _, _, h => exact h
                | 16, _, _, h => exact h
                | 17, _, _, h => exact h
                | 18, _, _, h => exact h
                | 19, _, _, h => exact h
                | 20, _, _, h => exact h
                | 21, _, hji, _ => exact absurd rfl hji
                | 22, _, _, h => exact h
                | 23, _, _, h => exact (cell_far W (by decide) _).trans h
                | 24, _, _, h => exact h
                | 25, _, _, h => exact (cell_far W (by decide) _).trans h
                | 26, _, _, h => exact h
                | 27, _, _, h => exact (cell_far W (by decide) _).trans h
                | 28, _, _, h => exact h
                | 29, _, _, h => exact (cell_far W (by decide) _).trans h
                | 30, _, _, h => exact h
                | 31, _, _, h => exact (cell_far W (by decide) _).trans h
                | n + 32, hj, _, _ => exact absurd hj (by simp)
              | 22, hop =>
                injection hop with hop
                subst hop
                have e0 : ac.eval (.tmp 17) = .pointer (some ⟨w9.heap.size, 0, none⟩) := hk.same (s := 17) (by kernel_rfl)
                exact wpM_run (.pointer (some ⟨w9.heap.size, 1, none⟩)) W (by simp only [execOp, e0]; simp [go_sem]) ⟨_, rfl, hR, fun u hu => hu (by simp), fun j _ _ _ u h => h⟩
              | 23, hop =>
                injection hop with hop
                subst hop
                have e0 : ac.eval (.tmp 117) = .pointer (some ⟨w9.heap.size, 1, none⟩) := hM 22 (by decide) (ready_up hi (by kernel_rfl))
                have e1 : ac.eval (.tmp 103) = .int .i64 (mvZ a b m.act) := hM 7 (by decide) (ready_up hi (by kernel_rfl))
                obtain ⟨y, hy⟩ := hR.cell (k := 1) (by decide)
                have fz := hR.frozen 1
                refine wpM_store _ _ _ _ _ (W.setCell ⟨w9.heap.size, 1, none⟩ (.int .i64 (mvZ a b m.act))) () rfl e0 e1 (by simp [go_sem, hy, fz]) ⟨_, rfl, hR.set_ 1 (by decide) _, fun u _ => cell_put W hy _, fun j hj hji hu u h => ?_⟩
                match j, hj, hji, h with
                | 0, _, _, h => exact h
                | 1, _, _, h => exact h
                | 2, _, _, h => exact h
                | 3, _, _, h => exact h
                | 4, _, _, h => exact h
                | 5, _, _, h => exact h
                | 6, _, _, h => exact h
                | 7, _, _, h => exact h
                | 8, _, _, h => exact h
                | 9, _, _, h => exact h
                | 10, _, _, h => exact h
                | 11, _, _, h => exact h
                | 12, _, _, h => exact h
                | 13, _, _, h => exact h
                | 14, _, _, h => exact h
                | 15, _, _, h => exact h
                | 16, _, _, h => exact h
                | 17, _, _, h => exact h
                | 18, _, _, h => exact h
                | 19, _, _, h => exact h
                | 20, _, _, h => exact h
                | 21, _, _, h => exact (cell_far W (by decide) _).trans h
                | 22, _, _, h => exact h
                | 23, _, hji, _ => exact absurd rfl hji
                | 24, _, _, h => exact h
                | 25, _, _, h => exact (cell_far W (by decide) _).trans h
                | 26, _, _, h => exact h
                | 27, _, _, h => exact (cell_far W (by decide) _).trans h
                | 28, _, _, h => exact h
                | 29, _, _, h => exact (cell_far W (by decide) _).trans h
                | 30, _, _, h => exact h
                | 31, _, _, h => exact (cell_far W (by decide) _).trans h
                | n + 32, hj, _, _ => exact absurd hj (by simp)
              | 24, hop =>
                injection hop with hop
                subst hop
                have e0 : ac.eval (.tmp 17) = .pointer (some ⟨w9.heap.size, 0, none⟩) := hk.same (s := 17) (by kernel_rfl)
                exact wpM_run (.pointer (some ⟨w9.heap.size, 2, none⟩)) W (by simp only [execOp, e0]; simp [go_sem]) ⟨_, rfl, hR, fun u hu => hu (by simp), fun j _ _ _ u h => h⟩
              | 25, hop =>
                injection hop with hop
                subst hop
                have e0 : ac.eval (.tmp 118) = .pointer (some ⟨w9.heap.size, 2, none⟩) := hM 24 (by decide) (ready_up hi (by kernel_rfl))
                have e1 : ac.eval (.tmp 107) = .int .i64 (mvZ a b m.res) := hM 11 (by decide) (ready_up hi (by kernel_rfl))
                obtain ⟨y, hy⟩ := hR.cell (k := 2) (by decide)
                have fz := hR.frozen 2
                refine wpM_store _ _ _ _ _ (W.setCell ⟨w9.heap.size, 2, none⟩ (.int .i64 (mvZ a b m.res))) () rfl e0 e1 (by simp [go_sem, hy, fz]) ⟨_, rfl, hR.set_ 2 (by decide) _, fun u _ => cell_put W hy _, fun j hj hji hu u h => ?_⟩
                match j, hj, hji, h with
                | 0, _, _, h => exact h
                | 1, _, _, h => exact h
                | 2, _, _, h => exact h
                | 3, _, _, h => exact h
                | 4, _, _, h => exact h
                | 5, _, _, h => exact h
                | 6, _, _, h => exact h
                | 7, _, _, h => exact h
                | 8, _, _, h => exact h
                | 9, _, _, h => exact h
                | 10, _, _, h => exact h
                | 11, _, _, h => exact h
                | 12, _, _, h => exact h
                | 13, _, _, h => exact h
                | 14, _, _, h => exact h
                | 15, _, _, h => exact h
                | 16, _, _, h => exact h
                | 17, _, _, h => exact h
                | 18, _, _, h => exact h
                | 19, _, _, h => exact h
                | 20, _, _, h => exact h
                | 21, _, _, h => exact (cell_far W (by decide) _).trans h
                | 22, _, _, h => exact h
                | 23, _, _, h => exact (cell_far W (by decide) _).trans h
                | 24, _, _, h => exact h
                | 25, _, hji, _ => exact absurd rfl hji
                | 26, _, _, h => exact h
                | 27, _, _, h => exact (cell_far W (by decide) _).trans h
                | 28, _, _, h => exact h
                | 29, _, _, h => exact (cell_far W (by decide) _).trans h
                | 30, _, _, h => exact h
                | 31, _, _, h => exact (cell_far W (by decide) _).trans h
                | n + 32, hj, _, _ => exact absurd hj (by simp)
              | 26, hop =>
                injection hop with hop
                subst hop
                have e0 : ac.eval (.tmp 17) = .pointer (some ⟨w9.heap.size, 0, none⟩) := hk.same (s := 17) (by kernel_rfl)
                exact wpM_run (.pointer (some ⟨w9.heap.size, 3, none⟩)) W (by simp only [execOp, e0]; simp [go_sem]) ⟨_, rfl, hR, fun u hu => hu (by simp), fun j _ _ _ u h => h⟩
              | 27, hop =>
                injection hop with hop
                subst hop
                have e0 : ac.eval (.tmp 119) = .pointer (some ⟨w9.heap.size, 3, none⟩) := hM 26 (by decide) (ready_up hi (by kernel_rfl))
                have e1 : ac.eval (.tmp 111) = .int .i64 (mvZ a b m.life) := hM 15 (by decide) (ready_up hi (by kernel_rfl))
                obtain ⟨y, hy⟩ := hR.cell (k := 3) (by decide)
                have fz := hR.frozen 3
                refine wpM_store _ _ _ _ _ (W.setCell ⟨w9.heap.size, 3, none⟩ (.int .i64 (mvZ a b m.life))) () rfl e0 e1 (by simp [go_sem, hy, fz]) ⟨_, rfl, hR.set_ 3 (by decide) _, fun u _ => cell_put W hy _, fun j hj hji hu u h => ?_⟩
                match j, hj, hji, h with
                | 0, _, _, h => exact h
                | 1, _, _, h => exact h
                | 2, _, _, h => exact h
                | 3, _, _, h => exact h
                | 4, _, _, h => exact h
                | 5, _, _, h => exact h
                | 6, _, _, h => exact h
                | 7, _, _, h => exact h
                | 8, _, _, h => exact h
                | 9, _, _, h => exact h
                | 10, _, _, h => exact h
                | 11, _, _, h => exact h
                | 12, _, _, h => exact h
                | 13, _, _, h => exact h
                | 14, _, _, h => exact h
                | 15, _, _, h => exact h
                | 16, _, _, h => exact h
                | 17, _, _, h => exact h
                | 18, _, _, h => exact h
                | 19, _, _, h => exact h
                | 20, _, _, h => exact h
                | 21, _, _, h => exact (cell_far W (by decide) _).trans h
                | 22, _, _, h => exact h
                | 23, _, _, h => exact (cell_far W (by decide) _).trans h
                | 24, _, _, h => exact h
                | 25, _, _, h => exact (cell_far W (by decide) _).trans h
                | 26, _, _, h => exact h
                | 27, _, hji, _ => exact absurd rfl hji
                | 28, _, _, h => exact h
                | 29, _, _, h => exact (cell_far W (by decide) _).trans h
                | 30, _, _, h => exact h
                | 31, _, _, h => exact (cell_far W (by decide) _).trans h
                | n + 32, hj, _, _ => exact absurd hj (by simp)
              | 28, hop =>
                injection hop with hop
                subst hop
                have e0 : ac.eval (.tmp 17) = .pointer (some ⟨w9.heap.size, 0, none⟩) := hk.same (s := 17) (by kernel_rfl)
                exact wpM_run (.pointer (some ⟨w9.heap.size, 4, none⟩)) W (by simp only [execOp, e0]; simp [go_sem]) ⟨_, rfl, hR, fun u hu => hu (by simp), fun j _ _ _ u h => h⟩
              | 29, hop =>
                injection hop with hop
                subst hop
                have e0 : ac.eval (.tmp 120) = .pointer (some ⟨w9.heap.size, 4, none⟩) := hM 28 (by decide) (ready_up hi (by kernel_rfl))
                have e1 : ac.eval (.tmp 115) = .int .i64 (mvZ a b m.time) := hM 19 (by decide) (ready_up hi (by kernel_rfl))
                obtain ⟨y, hy⟩ := hR.cell (k := 4) (by decide)
                have fz := hR.frozen 4
                refine wpM_store _ _ _ _ _ (W.setCell ⟨w9.heap.size, 4, none⟩ (.int .i64 (mvZ a b m.time))) () rfl e0 e1 (by simp [go_sem, hy, fz]) ⟨_, rfl, hR.set_ 4 (by decide) _, fun u _ => cell_put W hy _, fun j hj hji hu u h => ?_⟩
                match j, hj, hji, h with
                | 0, _, _, h => exact h
                | 1, _, _, h => exact h
                | 2, _, _, h => exact h
                | 3, _, _, h => exact h
                | 4, _, _, h => exact h
                | 5, _, _, h => exact h
                | 6, _, _, h => exact h
                | 7, _, _, h => exact h
                | 8, _, _, h => exact h
                | 9, _, _, h => exact h
                | 10, _, _, h => exact h
                | 11, _, _, h => exact h
                | 12, _, _, h => exact h
                | 13, _, _, h => exact h
                | 14, _, _, h => exact h
                | 15, _, _, h => exact h
                | 16, _, _, h => exact h
                | 17, _, _, h => exact h
                | 18, _, _, h => exact h
                | 19, _, _, h => exact h
                | 20, _, _, h => exact h
                | 21, _, _, h => exact (cell_far W (by decide) _).trans h
                | 22, _, _, h => exact h
                | 23, _, _, h => exact (cell_far W (by decide) _).trans h
                | 24, _, _, h => exact h
                | 25, _, _, h => exact (cell_far W (by decide) _).trans h
                | 26, _, _, h => exact h
                | 27, _, _, h => exact (cell_far W (by decide) _).trans h
                | 28, _, _, h => exact h
                | 29, _, hji, _ => exact absurd rfl hji
                | 30, _, _, h => exact h
                | 31, _, _, h => exact (cell_far W (by decide) _).trans h
                | n + 32, hj, _, _ => exact absurd hj (by simp)
              | 30, hop =>
                injection hop with hop
                subst hop
                have e0 : ac.eval (.tmp 17) = .pointer (some ⟨w9.heap.size, 0, none⟩) := hk.same (s := 17) (by kernel_rfl)
                exact wpM_run (.pointer (some ⟨w9.heap.size, 5, none⟩)) W (by simp only [execOp, e0]; simp [go_sem]) ⟨_, rfl, hR, fun u hu => hu (by simp), fun j _ _ _ u h => h⟩
              | 31, hop =>
                injection hop with hop
                subst hop
                have e0 : ac.eval (.tmp 121) = .pointer (some ⟨w9.heap.size, 5, none⟩) := hM 30 (by decide) (ready_up hi (by kernel_rfl))
                have e1 : ac.eval (.const (.slice none 0 0)) = .slice none 0 0 := rfl
                obtain ⟨y, hy⟩ := hR.cell (k := 5) (by decide)
                have fz := hR.frozen 5
                refine wpM_store _ _ _ _ _ (W.setCell ⟨w9.heap.size, 5, none⟩ (.slice none 0 0)) () rfl e0 e1 (by simp [go_sem, hy, fz]) ⟨_, rfl, hR.set_ 5 (by decide) _, fun u _ => cell_put W hy _, fun j hj hji hu u h => ?_⟩
                match j, hj, hji, h with
                | 0, _, _, h => exact h
                | 1, _, _, h => exact h
                | 2, _, _, h => exact h
                | 3, _, _, h => exact h
                | 4, _, _, h => exact h
                | 5, _, _, h => exact h
                | 6, _, _, h => exact h
                | 7, _, _, h => exact h
                | 8, _, _, h => exact h
                | 9, _, _, h => exact h
                | 10, _, _, h => exact h
                | 11, _, _, h => exact h
                | 12, _, _, h => exact h
                | 13, _, _, h => exact h
                | 14, _, _, h => exact h
                | 15, _, _, h => exact h
                | 16, _, _, h => exact h
                | 17, _, _, h => exact h
                | 18, _, _, h => exact h
                | 19, _, _, h => exact h
                | 20, _, _, h => exact h
                | 21, _, _, h => exact (cell_far W (by decide) _).trans h
                | 22, _, _, h => exact h
                | 23, _, _, h => exact (cell_far W (by decide) _).trans h
                | 24, _, _, h => exact h
                | 25, _, _, h => exact (cell_far W (by decide) _).trans h
                | 26, _, _, h => exact h
                | 27, _, _, h => exact (cell_far W (by decide) _).trans h
                | 28, _, _, h => exact h
                | 29, _, _, h => exact (cell_far W (by decide) _).trans h
                | 30, _, _, h => exact h
                | 31, _, hji, _ => exact absurd rfl hji
                | n + 32, hj, _, _ => exact absurd hj (by simp)
              | n + 32, hop => simp at hop
            case hend =>
              intro ac W hk hR hM
              have m0 : W.cell? ⟨w9.heap.size, 0, none⟩ = some (.int .i64 (mvZ a b m.cas)) := hM 21 (by decide)
              have m1 : W.cell? ⟨w9.heap.size, 1, none⟩ = some (.int .i64 (mvZ a b m.act)) := hM 23 (by decide)
              have m2 : W.cell? ⟨w9.heap.size, 2, none⟩ = some (.int .i64 (mvZ a b m.res)) := hM 25 (by decide)
              have m3 : W.cell? ⟨w9.heap.size, 3, none⟩ = some (.int .i64 (mvZ a b m.life)) := hM 27 (by decide)
              have m4 : W.cell? ⟨w9.heap.size, 4, none⟩ = some (.int .i64 (mvZ a b m.time)) := hM 29 (by decide)
              have m5 : W.cell? ⟨w9.heap.size, 5, none⟩ = some (.slice none 0 0) := hM 31 (by decide)
              have hblk := hR.end_ m0 m1 m2 m3 m4 m5
              refine hK _ _ ?_
              rw [hk.form (by kernel_rfl)]
              simp only [putsAll, Option.getD_some, Act.put, List.setIfInBounds_toArray, List.set_cons_zero, List.set_cons_succ]
              go_meet
              exact ⟨hblk, hR.below⟩
          case rest =>
          obtain ⟨hMB, hb12⟩ := hcut
          obtain ⟨w12, hw12⟩ : ∃ w12, wc = w12 := ⟨_, rfl⟩
          rw [hw12] at hMB hb12 ⊢
          have HM12 := Lib.hid hMB
          have HB912 := Lib.hid hb12
          have HK12 := Lib.hid (HK9.out.now hb12)
          have HDV := Lib.hid (fun W (hW : Below w9.heap.size w9 W) => SlI.now HMD.out (HB9.out.trans (hW.mono HB9.out.size)))
          have HDF : Hid (m.data.length ≤ 30) := Lib.hid (great_len30 HQ2.out)
          clear hw12 hMB hb12 HM17 HBX c0 c1 c2 c3 c4 c5 c6 c7 hn1 hn2 hn3 hn4
          obtain ⟨c0, c1, c2, c3, c4, c5, c6, c7⟩ := HK12.out.c8m
          go_wp2_with fail
          go_loopw [125] (fun iv wr => ∃ (q : Nat) (zs : List Int) (dv : Value), iv = .int .i64 (q : Int) ∧ q ≤ m.data.length ∧ Hid (zs = (m.data.take q).map (mvZ a b)) ∧ Hid (Blk wr w9.heap.size 33 #[.int .i64 (mvZ a b m.cas), .int .i64 (mvZ a b m.act), .int .i64 (mvZ a b m.res), .int .i64 (mvZ a b m.life), .int .i64 (mvZ a b m.time), dv, .slice Ak m.kinds.length ck, .int .u8 z]) ∧ Hid (OwnZ wr w12.heap.size dv zs) ∧ Hid (Below w9.heap.size w9 wr) ∧ Hid (w12.heap.size ≤ wr.heap.size)) (fun iv _ => m.data.length - (intOf iv).toNat)
          case atStart => exact ⟨0, [], .slice none 0 0, rfl, Nat.zero_le _, Lib.hid rfl, HM12, Lib.hid (World.ownsRow_nil _ _ _ _), HB912, Lib.hid (Nat.le_refl _)⟩
          case round =>
            obtain ⟨q, zs, dv, rfl, hq, HZQ, HMr, HZr, HBr, HSr⟩ := hrel
            obtain ⟨Av, cv, hdv⟩ := ownZ_form HZr.out
            subst hdv
            have hdf := HDF.out
            have HZL : Hid (zs.length = q) := Lib.hid (by rw [HZQ.out, List.length_map, List.length_take]; omega)
            obtain ⟨w13, hw13⟩ : ∃ w13, wr = w13 := ⟨_, rfl⟩
            rw [hw13] at HMr HZr HBr HSr ⊢
            have HKr := Lib.hid (HK9.out.now HBr.out)
            by_cases hql : q < m.data.length
            · obtain ⟨db, do_, dx, hdA, hDd, hdx, hdf', cdx⟩ := SlI.at_ (HDV.out w13 HBr.out) hql
              subst hdA
              have HTQ : Hid (zs ++ [mvZ a b dx] = (m.data.take (q + 1)).map (mvZ a b)) := Lib.hid (by rw [HZQ.out, List.take_add_one, hdx, List.map_append]; rfl)
              have HS13 := HSr
              have hMlt : w9.heap.size < w12.heap.size := HM12.out.lt
              have HPU := Lib.hid (fun (w' : World) (v' : Value) h1 h2 => z_pushed (w5 := w13.drew) (w' := w') (v' := v') (z := mvZ a b dx) HMr.out.drew hMlt (Nat.le_refl _) HBr.out.drew h1 h2 (fun g e => (World.ownsRow.lt HZr.out g e).1))
              have hol : zs.length < 10000000 := by have := HZL.out; omega
              clear hw13 c0 c1 c2 c3 c4 c5 c6 c7 hdf' hDd hdx hdf
              go_upto_region 23 with fail
              have z5 : w13.cell? ⟨w9.heap.size, 5, none⟩ = some (.slice Av zs.length cv) := HMr.out.c8m.2.2.2.2.2.1
              have z6 : (w13.alloc (.cells #[.int .i64 (mvZ a b dx)] 3)).cell? ⟨w9.heap.size, 5, none⟩ = some (.slice Av zs.length cv) := (HMr.out.alloc _).c8m.2.2.2.2.2.1
              have za : w13.drew.cell? ⟨pa, 0, none⟩ = some (.int .i64 (a : Int)) := (HBr.out.drew.cell (p := ⟨pa, 0, none⟩) HP9.out.lt).trans HP9.out.c1
              have zb : w13.drew.cell? ⟨pb, 0, none⟩ = some (.int .i64 (b : Int)) := (HBr.out.drew.cell (p := ⟨pb, 0, none⟩) HQ9.out.lt).trans HQ9.out.c1
              have hO5 : OwnZ w13.drew w12.heap.size (.slice Av zs.length cv) zs := HZr.out
              have hs5 : w12.heap.size ≤ w13.drew.heap.size := HSr.out
              refine wp_region_rel3 (by kernel_rfl) (by kernel_rfl) (by kernel_rfl) (fun U W => (¬ U 5 → W = w13.drew) ∧ (U 5 → ¬ U 6 → W = w13.drew.alloc (.cells #[.int .i64 (mvZ a b dx)] 3))) (pzF w9.heap.size pa pb zs.length cv w13.heap.size Av dx (mvZ a b dx) (fun (u : Value) (W : World) => ∃ A' c', u = (.slice A' (zs ++ [mvZ a b dx]).length c' : Value) ∧ Blk W w9.heap.size 33 #[.int .i64 (mvZ a b m.cas), .int .i64 (mvZ a b m.act), .int .i64 (mvZ a b m.res), .int .i64 (mvZ a b m.life), .int .i64 (mvZ a b m.time), .slice Av zs.length cv, .slice Ak m.kinds.length ck, .int .u8 z] ∧ (Blk (W.setCell ⟨w9.heap.size, 5, none⟩ u) w9.heap.size 33 #[.int .i64 (mvZ a b m.cas), .int .i64 (mvZ a b m.act), .int .i64 (mvZ a b m.res), .int .i64 (mvZ a b m.life), .int .i64 (mvZ a b m.time), u, .slice Ak m.kinds.length ck, .int .u8 z] ∧ OwnZ (W.setCell ⟨w9.heap.size, 5, none⟩ u) w12.heap.size u (zs ++ [mvZ a b dx]) ∧ Below w9.heap.size w9 (W.setCell ⟨w9.heap.size, 5, none⟩ u) ∧ w13.heap.size ≤ (W.setCell ⟨w9.heap.size, 5, none⟩ u).heap.size)) (fun (W : World) => ∃ A' c', Blk W w9.heap.size 33 #[.int .i64 (mvZ a b m.cas), .int .i64 (mvZ a b m.act), .int .i64 (mvZ a b m.res), .int .i64 (mvZ a b m.life), .int .i64 (mvZ a b m.time), (.slice A' (zs ++ [mvZ a b dx]).length c' : Value), .slice Ak m.kinds.length ck, .int .u8 z] ∧ OwnZ W w12.heap.size ((.slice A' (zs ++ [mvZ a b dx]).length c' : Value)) (zs ++ [mvZ a b dx]) ∧ Below w9.heap.size w9 W ∧ w13.heap.size ≤ W.heap.size)) pzFD ?h0 ?hstep ?hend ?hall
              case hall => exact hall_of (by kernel_rfl)
              case h0 => exact ⟨fun _ => rfl, fun h => h.elim⟩
              case hstep =>
                intro i o hop listed ac W hsh hi hk hR hM
                have hni := ready_not hi
                obtain ⟨hR1, hR2⟩ := hR
                have nd : ∀ j : Nat, (j == 6) = false → ∀ k, pzFD j k = true → ¬ Up listed k := fun j hj k h => by unfold pzFD at h; rw [hj] at h; cases h
                match i, hop with
                | 0, hop =>
                  injection hop with hop
                  subst hop
                  have e0 : ac.eval (.tmp 17) = .pointer (some ⟨w9.heap.size, 0, none⟩) := hk.same (s := 17) (by kernel_rfl)
                  exact wpM_run (.pointer (some ⟨w9.heap.size, 5, none⟩)) W (by simp only [execOp, e0]; simp [go_sem]) ⟨_, rfl, ⟨fun h => hR1 (fun h' => h (.inr h')), fun h h' => hR2 (h.resolve_left (by decide)) (fun h'' => h' (.inr h''))⟩, fun u hu => hu (by simp), fun j _ _ _ _ u h => h⟩
                | 1, hop =>
                  injection hop with hop
                  subst hop
                  have e0 : ac.eval (.tmp 129) = .pointer (some ⟨w9.heap.size, 5, none⟩) := hM 0 (by decide) (ready_up hi (by kernel_rfl)) (nd 0 rfl)
                  have h9 : ¬ Up listed 6 := fun h => hni (hsh.up h (show Region.waitsFor .any _ 6 1 = true by kernel_rfl))
                  have hW : W = w13.drew ∨ W = w13.drew.alloc (.cells #[.int .i64 (mvZ a b dx)] 3) := by
                    by_cases h8 : Up listed 5
                    · exact .inr (hR2 h8 h9)
                    · exact .inl (hR1 h8)
                  have hl : (Instr.loadAt 31 (.pointer (some ⟨w9.heap.size, 5, none⟩))).run Tryz.prog W = .ok (.slice Av zs.length cv) W := by rcases hW with hW | hW <;> (subst hW; simp [go_sem, z5, z6])
                  exact wpM_load _ _ _ (.slice Av zs.length cv) rfl e0 hl ⟨_, rfl, ⟨fun h => hR1 (fun h' => h (.inr h')), fun h h' => hR2 (h.resolve_left (by decide)) (fun h'' => h' (.inr h''))⟩, fun u hu => hu (by simp), fun j _ _ _ _ u h => h⟩
                | 2, hop =>
                  injection hop with hop
                  subst hop
                  have e0 : ac.eval (.tmp 16) = .func (.func 27) #[] #[.pointer (some ⟨pa, 0, none⟩), .pointer (some ⟨pb, 0, none⟩)] := hk.same (s := 16) (by kernel_rfl)
                  exact wpM_moveV _ _ rfl e0 ⟨_, rfl, ⟨fun h => hR1 (fun h' => h (.inr h')), fun h h' => hR2 (h.resolve_left (by decide)) (fun h'' => h' (.inr h''))⟩, fun u hu => hu (by simp), fun j _ _ _ _ u h => h⟩
                | 3, hop =>
                  injection hop with hop
                  subst hop
                  have e0 : ac.eval (.tmp 19) = .int .i64 dx := hk.same (s := 19) (by kernel_rfl)
                  exact wpM_moveV _ _ rfl e0 ⟨_, rfl, ⟨fun h => hR1 (fun h' => h (.inr h')), fun h h' => hR2 (h.resolve_left (by decide)) (fun h'' => h' (.inr h''))⟩, fun u hu => hu (by simp), fun j _ _ _ _ u h => h⟩
                | 4, hop =>
                  injection hop with hop
                  subst hop
                  have e0 : ac.eval (.tmp 131) = .func (.func 27) #[] #[.pointer (some ⟨pa, 0, none⟩), .pointer (some ⟨pb, 0, none⟩)] := hM 2 (by decide) (ready_up hi (by kernel_rfl)) (nd 2 rfl)
                  have e1 : ac.eval (.tmp 132) = .int .i64 dx := hM 3 (by decide) (ready_up hi (by kernel_rfl)) (nd 3 rfl)
                  obtain rfl : W = w13.drew := hR1 (fun h => hni (hsh.up h (show Region.waitsFor .any _ 5 4 = true by kernel_rfl)))
                  refine wpM_callK enters_mv _ _ #[.int .i64 dx] _ _ rfl e0 (by simp only [List.map_toArray, List.map_cons, List.map_nil, e1]) ((mv_any dx a b pa pb w13.drew za zb).mono ?_)
                  rintro e W' ⟨rfl, rfl⟩
                  exact ⟨_, rfl, ⟨_, rfl, ⟨fun h => hR1 (fun h' => h (.inr h')), fun h h' => hR2 (h.resolve_left (by decide)) (fun h'' => h' (.inr h''))⟩, fun u hu => hu (by simp), fun j _ _ _ _ u h => h⟩⟩
                | 5, hop =>
                  injection hop with hop
                  subst hop
                  have e0 : ac.eval (.tmp 133) = .int .i64 (mvZ a b dx) := hM 4 (by decide) (ready_up hi (by kernel_rfl)) (nd 4 rfl)
                  obtain rfl : W = w13.drew := hR1 hni
                  have h9 : ¬ Up listed 6 := fun h => hni (hsh.up h (by kernel_rfl))
                  have h11 : ¬ Up listed 8 := fun h => h9 (hsh.up h (by kernel_rfl))
                  refine wpM_slice _ _ _ (.slice (some ⟨w13.heap.size, 0, none⟩) 1 1) _ #[(0, .int .i64 (mvZ a b dx))] rfl (by simp [e0]) (bsZ1 (mvZ a b dx) _) ⟨_, rfl, ⟨fun h => absurd (.inl rfl) h, fun _ _ => rfl⟩, fun u hu => hu (by simp), fun j hj hji hu _ u h => ?_⟩
                  match j, hj, hu, h with
                  | 0, _, _, h => exact h
                  | 1, _, _, h => exact h
                  | 2, _, _, h => exact h
                  | 3, _, _, h => exact h
                  | 4, _, _, h => exact h
                  | 5, _, _, h => exact h
                  | 6, _, hu, _ => exact absurd hu h9
                  | 7, _, _, h => exact h
                  | 8, _, hu, _ => exact absurd hu h11
                  | n + 9, hj, _, _ => exact absurd hj (by simp)
                | 6, hop =>
                  injection hop with hop
                  subst hop
                  have e0 : ac.eval (.tmp 130) = .slice Av zs.length cv := hM 1 (by decide) (ready_up hi (by kernel_rfl)) (nd 1 rfl)
                  have e1 : ac.eval (.tmp 134) = .slice (some ⟨w13.heap.size, 0, none⟩) 1 1 := hM 5 (by decide) (ready_up hi (by kernel_rfl)) (nd 5 rfl)
                  have u8 := ready_up hi (show Region.waitsFor .any _ 6 5 = true by kernel_rfl)
                  obtain rfl : W = w13.drew.alloc (.cells #[.int .i64 (mvZ a b dx)] 3) := hR2 u8 hni
                  have h11 : ¬ Up listed 8 := fun h => hni (hsh.up h (by kernel_rfl))
                  refine wp_push appInts (.tmp 130) (.tmp 134) rfl w13.drew [.int .i64 (mvZ a b dx)] rfl (by intro u hu; simp at hu; rw [hu]; rfl) _ zs.length (zs.map (Value.int .i64)) e0 hO5 e1 hol hs5 ?_
                  intro v' w' hown hgr hat
                  have hP9 := HPU.out _ _ hown hgr
                  refine ⟨_, rfl, ⟨fun h => absurd (.inr u8) h, fun _ h => absurd (.inl rfl) h⟩, fun u hu => by rw [hu (by simp)]; exact hP9, fun j hj hji hu _ u h => ?_⟩
                  match j, hj, hji, hu, h with
                  | 0, _, _, _, h => exact h
                  | 1, _, _, _, h => exact h
                  | 2, _, _, _, h => exact h
                  | 3, _, _, _, h => exact h
                  | 4, _, _, _, h => exact h
                  | 5, _, _, _, h => exact h
                  | 6, _, hji, _, _ => exact absurd rfl hji
                  | 7, _, _, _, h => exact h
                  | 8, _, _, hu, _ => exact absurd hu h11
                  | n + 9, hj, _, _, _ => exact absurd hj (by simp)
                | 7, hop =>
                  injection hop with hop
                  subst hop
                  have e0 : ac.eval (.tmp 17) = .pointer (some ⟨w9.heap.size, 0, none⟩) := hk.same (s := 17) (by kernel_rfl)
                  exact wpM_run (.pointer (some ⟨w9.heap.size, 5, none⟩)) W (by simp only [execOp, e0]; simp [go_sem]) ⟨_, rfl, ⟨fun h => hR1 (fun h' => h (.inr h')), fun h h' => hR2 (h.resolve_left (by decide)) (fun h'' => h' (.inr h''))⟩, fun u hu => hu (by simp), fun j _ _ _ _ u h => h⟩
                | 8, hop =>
                  injection hop with hop
                  subst hop
                  have e0 : ac.eval (.tmp 136) = .pointer (some ⟨w9.heap.size, 5, none⟩) := hM 7 (by decide) (ready_up hi (by kernel_rfl)) (nd 7 rfl)
                  have u9 := ready_up hi (show Region.waitsFor .any _ 8 6 = true by kernel_rfl)
                  have u8 := hsh.up u9 (show Region.waitsFor .any _ 6 5 = true by kernel_rfl)
                  have hP9 := hM 6 (by decide) u9 (fun k h => by unfold pzFD at h; have h : k = 8 := (by simpa using h); rw [h]; exact hni)
                  obtain ⟨A', c', hv9, hE9, hF9, hO9, hB9, hS9⟩ := hP9
                  have hvn : ac.eval (.tmp 135) = (.slice A' (zs ++ [mvZ a b dx]).length c' : Value) := hv9
                  have hF9 : Blk (W.setCell ⟨w9.heap.size, 5, none⟩ (ac.eval (.tmp 135))) w9.heap.size 33 #[.int .i64 (mvZ a b m.cas), .int .i64 (mvZ a b m.act), .int .i64 (mvZ a b m.res), .int .i64 (mvZ a b m.life), .int .i64 (mvZ a b m.time), ac.eval (.tmp 135), .slice Ak m.kinds.length ck, .int .u8 z] := hF9
                  have hcl := hE9.c8m.2.2.2.2.2.1
                  have hfz := hE9.frozen 5
                  have hO9 : OwnZ (W.setCell ⟨w9.heap.size, 5, none⟩ (ac.eval (.tmp 135))) w12.heap.size (ac.eval (.tmp 135)) (zs ++ [mvZ a b dx]) := hO9
                  have hB9 : Below w9.heap.size w9 (W.setCell ⟨w9.heap.size, 5, none⟩ (ac.eval (.tmp 135))) := hB9
                  have hS9 : w13.heap.size ≤ (W.setCell ⟨w9.heap.size, 5, none⟩ (ac.eval (.tmp 135))).heap.size := hS9
                  rw [hvn] at hF9 hO9 hB9 hS9
                  refine wpM_store _ _ _ _ _ (W.setCell ⟨w9.heap.size, 5, none⟩ ((.slice A' (zs ++ [mvZ a b dx]).length c' : Value))) () rfl e0 hvn (by simp [go_sem, hcl, hfz]) ⟨_, rfl, ⟨fun h => absurd (.inr u8) h, fun _ h => absurd (.inr u9) h⟩, fun u _ => ⟨A', c', hF9, hO9, hB9, hS9⟩, fun j hj hji hu hd u h => ?_⟩
                  match j, hj, hji, hd, h with
                  | 0, _, _, _, h => exact h
                  | 1, _, _, _, h => exact h
                  | 2, _, _, _, h => exact h
                  | 3, _, _, _, h => exact h
                  | 4, _, _, _, h => exact h
                  | 5, _, _, _, h => exact h
                  | 6, _, _, hd, _ => exact absurd hd (by decide)
                  | 7, _, _, _, h => exact h
                  | 8, _, hji, _, _ => exact absurd rfl hji
                  | n + 9, hj, _, _, _ => exact absurd hj (by simp)
                | n + 9, hop => simp at hop
              case hend =>
                intro ac W U hk hR hM
                have h11 := hM 8 (by decide) (fun k => rfl)
                obtain ⟨A7, c7, hE7, hO7, hB7, hS7⟩ := h11
                have HE7 := Lib.hid hE7
                have HO7 := Lib.hid hO7
                have HB7 := Lib.hid hB7
                have HS7 := Lib.hid hS7
                clear hE7 hO7 hB7 hS7 z5 z6 za zb hO5 hs5
                rw [hk.form (by kernel_rfl)]
                simp only [putsAll, Option.getD_some, Act.put, List.setIfInBounds_toArray, List.set_cons_zero, List.set_cons_succ]
                go_wp2_with fail
                go_roundw
                case rel => exact ⟨q + 1, zs ++ [mvZ a b dx], _, by go_num, by omega, HTQ, HE7, HO7, HB7, Lib.hid (Nat.le_trans HS13.out HS7.out)⟩
                case measure => simp [intOf]; omega
            · have hqe : q = m.data.length := by omega
              have HZA : Hid (zs = m.data.map (mvZ a b)) := Lib.hid (by rw [HZQ.out, hqe, List.take_length])
              have HFT : Hid (∀ c, Fit c → Fit (mvZ a b c)) := Lib.hid fun c hc => by
                have h1 := HAN.out.1
                have h2 := HAN.out.2
                have h3 : n ≤ 40 := by have := HCR.out hd (by simp); have := HN.out; omega
                unfold mvZ
                split
                · unfold Fit; omega
                · split
                  · unfold Fit; omega
                  · exact hc
              have HZF : Hid (∀ x ∈ zs, Fit x) := Lib.hid fun x hx => by
                rw [HZA.out] at hx
                obtain ⟨y, hy, rfl⟩ := List.mem_map.1 hx
                exact HFT.out y (HDFT.out y hy)
              have HMV : Hid (∀ W, Below w13.heap.size w13 W → IsMp (Lt W.heap.size) W (.agg #[.int .i64 (mvZ a b m.cas), .int .i64 (mvZ a b m.act), .int .i64 (mvZ a b m.res), .int .i64 (mvZ a b m.life), .int .i64 (mvZ a b m.time), .slice Av zs.length cv, .slice Ak m.kinds.length ck, .int .u8 z]) (mvM a b m)) := Lib.hid fun W hW => by
                have hkb : Below w.heap.size w W := HB9.out.trans ((HBr.out.mono HB9.out.size).trans (hW.mono (Nat.le_trans HB9.out.size HBr.out.size)))
                refine ⟨.slice Av zs.length cv, .slice Ak m.kinds.length ck, ?_, ⟨HFT.out _ hfm.cas, HFT.out _ hfm.act, HFT.out _ hfm.res, HFT.out _ hfm.life, HFT.out _ hfm.time⟩, ?_, SlI.now HMK.out hkb⟩
                · unfold mpV mvM
                  rw [HZ.out]
                · show SlI _ _ _ (m.data.map (mvZ a b))
                  rw [← HZA.out]
                  exact SlI.of_own (own_now HZr.out hW) HZF.out
              have HBW := Lib.hid (HB9.out.trans (HBr.out.mono HB9.out.size))
              have HOT13 := Lib.hid (OwnR.now HOT.out RStrs.kept HBr.out)
              have HR13 := Lib.hid (HH.out.now HBW.out)
              have HSO : Hid (SmallT ((hd :: rs).map (swpR a b))) := Lib.hid (swp_small HSM.out)
              have HW1 := Lib.hid (HWP.out w13 HR13.out HSM.out (HAM.out.now HBW.out))
              have HWO := Lib.hid (fun W (hW : Below w13.heap.size w13 W) => write_any ((hd :: rs).map (swpR a b)) (.slice Ao k co) m.sep W (SlSS.now (show SlSS (Lt w13.heap.size) w13 (.slice Ao k co) ((hd :: rs).map (swpR a b)) from OwnR.sl HOT13.out RStrs.kept) hW) HSO.out ((HAM.out.now HBW.out).now hW))
              have HLAW : Hid (∀ s t, writeE m.sep (hd :: rs) = (s, 0) → writeE m.sep ((hd :: rs).map (swpR a b)) = (t, 0) → mapB (mvM a b m) = true → sameI (impE t (mvM a b m)) (impE s m)) := Lib.hid fun s t hs ht hw => cols_same HAL.out HAN.out.1 HAN.out.2 HQ4.out hw hs ht
              have HRW := Lib.hid (fun W h1 => valid_ref (.agg #[.int .i64 (mvZ a b m.cas), .int .i64 (mvZ a b m.act), .int .i64 (mvZ a b m.res), .int .i64 (mvZ a b m.life), .int .i64 (mvZ a b m.time), .slice Av zs.length cv, .slice Ak m.kinds.length ck, .int .u8 z]) (mvM a b m) W h1 (by show (m.data.map _).length ≤ _; rw [List.length_map]; omega))
              have HIW := Lib.hid (fun s W h1 h2 h3 => import_any s (.agg #[.int .i64 (mvZ a b m.cas), .int .i64 (mvZ a b m.act), .int .i64 (mvZ a b m.res), .int .i64 (mvZ a b m.life), .int .i64 (mvZ a b m.time), .slice Av zs.length cv, .slice Ak m.kinds.length ck, .int .u8 z]) (mvM a b m) W h1 h2 (by show (m.data.map _).length ≤ _; rw [List.length_map]; omega) h3)
              rw [HZ.out] at HWO
              rw [List.length_cons] at HW1
              obtain ⟨s0, hs0⟩ : ∃ s0, writeE m.sep (hd :: rs) = s0 := ⟨_, rfl⟩
              obtain ⟨t0, ht0⟩ : ∃ t0, writeE m.sep ((hd :: rs).map (swpR a b)) = t0 := ⟨_, rfl⟩
              rw [hs0] at HW1 HLAW
              rw [ht0] at HWO HLAW
              have HSL : Hid (s0.1.length ≤ 16384) := Lib.hid (by rw [← hs0]; exact write_len16)
              have HTL : Hid (t0.1.length ≤ 16384) := Lib.hid (by rw [← ht0]; exact write_len16)
              obtain ⟨sx, se⟩ := s0
              obtain ⟨tx, te⟩ := t0
              dsimp only at HSL HTL
              clear hs0 ht0 hw13 c0 c1 c2 c3 c4 c5 c6 c7
              obtain ⟨c0, c1, c2, c3, c4, c5, c6, c7⟩ := HKr.out.c8m
              go_wp2_with fail
              (with_reducible refine HW1.out.mono ?_)
              rintro _ w14 ⟨rfl, hb14⟩
              have HB14 := Lib.hid hb14
              have HK14 := Lib.hid (HKr.out.now hb14)
              have HM14 := Lib.hid (HMr.out.now hb14)
              clear hb14 HW1 c0 c1 c2 c3 c4 c5 c6 c7 HKr HMr
              obtain ⟨c0, c1, c2, c3, c4, c5, c6, c7⟩ := HK14.out.c8m
              have HWO14 := Lib.hid (HWO.out w14 HB14.out)
              go_wp2_with fail
              (with_reducible refine HWO14.out.mono ?_)
              rintro _ w15 ⟨rfl, hb15⟩
              have HB15 := Lib.hid (bthen HB14.out hb15)
              have HK15 := Lib.hid (HK14.out.now hb15)
              have HM15 := Lib.hid (HM14.out.now hb15)
              have HBE := Lib.hid (HBW.out.trans (HB15.out.mono HBW.out.size))
              clear hb15 HWO14 HB14 c0 c1 c2 c3 c4 c5 c6 c7 HK14 HM14 HWO
              by_cases hse : se = 0
              rotate_left
              · have e1 : (se != 0) = true := by simpa using hse
                clear hse
                go_wp2_with fail
                go_ret
                exact ⟨rfl, HBE.out⟩
              subst hse
              by_cases hte : te = 0
              rotate_left
              · have e1 : (te != 0) = true := by simpa using hte
                clear hte
                go_wp2_with fail
                go_ret
                exact ⟨rfl, HBE.out⟩
              subst hte
              obtain ⟨d0, d1, d2, d3, d4, d5, d6, d7⟩ := HM15.out.c8m
              have HRW15 := Lib.hid (HRW.out w15 (HMV.out w15 HB15.out))
              obtain ⟨q6, hq6⟩ : ∃ q6, mapB (mvM a b m) = q6 := ⟨_, rfl⟩
              rw [hq6] at HRW15
              have HQ6 := Lib.hid hq6
              clear hq6
              go_wp2_with fail
              (with_reducible refine HRW15.out.mono ?_)
              rintro _ w16 ⟨rfl, hb16⟩
              have HB16 := Lib.hid (bthen HB15.out hb16)
              have HK16 := Lib.hid (HK15.out.now hb16)
              have HM16 := Lib.hid (HM15.out.now hb16)
              have HBF := Lib.hid (bthen HBE.out hb16)
              clear hb16 HRW15 HB15 d0 d1 d2 d3 d4 d5 d6 d7 HK15 HM15 HBE HRW
              cases q6 with
              | false =>
                go_wp2_with fail
                go_ret
                exact ⟨rfl, HBF.out⟩
              | true =>
              have HSI := Lib.hid (HLAW.out sx tx rfl rfl (by first | exact HQ6.out | trivial))
              obtain ⟨c0, c1, c2, c3, c4, c5, c6, c7⟩ := HK16.out.c8m
              have HI16 := Lib.hid (HIM.out (bsOf sx) w16 (by rw [bs_size]; have := HSL.out; omega) (HMP.out.now HBF.out) HDL.out (HAM.out.now HBF.out))
              rw [bs_list] at HI16
              have HIW := Lib.hid (fun W (hW : Below w16.heap.size w16 W) => HIW.out (bsOf tx) W (by rw [bs_size]; have := HTL.out; omega) (HMV.out W (bthen HB16.out hW)) ((HAM.out.now HBF.out).now hW))
              rw [bs_list] at HIW
              obtain ⟨p1, hp1⟩ : ∃ p1, impE sx m = p1 := ⟨_, rfl⟩
              obtain ⟨p2, hp2⟩ : ∃ p2, impE tx (mvM a b m) = p2 := ⟨_, rfl⟩
              rw [hp1] at HI16 HSI
              rw [hp2] at HIW HSI
              obtain ⟨L1, ⟨x1, y1⟩, k1⟩ := p1
              obtain ⟨L2, ⟨x2, y2⟩, k2⟩ := p2
              have hsi : L2 = L1 ∧ k2 = k1 := HSI.out
              obtain ⟨hL, hkk2⟩ := hsi
              subst hL hkk2
              clear HSI hp1 hp2 HLAW HSL HTL HIM
              go_wp2_with fail
              (with_reducible refine HI16.out.mono ?_)
              rintro _ w17 ⟨lv1, rfl, hs17, hb17⟩
              dsimp only at hs17
              obtain ⟨A1, cc1, rfl, _, _, hs17⟩ := hs17.open_
              have HS17 := Lib.hid hs17
              have HB17 := Lib.hid hb17
              have HK17 := Lib.hid (HK16.out.now hb17)
              have HM17' := Lib.hid (HM16.out.now hb17)
              clear hb17 hs17 HI16 c0 c1 c2 c3 c4 c5 c6 c7 HK16 HM16
              go_upto_region 30 with fail
              have hg1 := Blk.new w17 38 #[.slice A1 L2.length cc1]
              have hb3a := bone w17 (.cells #[.slice A1 L2.length cc1] 38)
              have hb3b := bone (w17.alloc (.cells #[.slice A1 L2.length cc1] 38)) (.cells #[.int .i64 x1, .int .i64 y1] 40)
              obtain ⟨w18, hw18⟩ : ∃ w18, (w17.alloc (.cells #[.slice A1 L2.length cc1] 38)).alloc (.cells #[.int .i64 x1, .int .i64 y1] 40) = w18 := ⟨_, rfl⟩
              have hg1 := hg1.now hb3b
              have hb78 := bthen hb3a hb3b
              rw [hw18] at hg1 hb78 ⊢
              have HG18 := Lib.hid hg1
              have HB18 := Lib.hid (bthen HB17.out hb78)
              have HS18 := Lib.hid (SlEv.now HS17.out hb78)
              have HM18 := Lib.hid (HM17'.out.now hb78)
              have HI18 := Lib.hid (HIW.out w18 HB18.out)
              clear hg1 hb3a hb3b hw18 hb78 HM17' HS17 HK17 HIW HB17
              obtain ⟨d0, d1, d2, d3, d4, d5, d6, d7⟩ := HM18.out.c8m
              go_wp2_with fail
              (with_reducible refine HI18.out.mono ?_)
              rintro _ w19 ⟨lv2, rfl, hs19, hb19⟩
              dsimp only at hs19
              obtain ⟨A2, cc2, rfl, _, _, hs19⟩ := hs19.open_
              have HS19 := Lib.hid hs19
              have HB19 := Lib.hid (bthen HB18.out hb19)
              have HG19 := Lib.hid (HG18.out.now hb19)
              have HT19 := Lib.hid (HS18.out.now hb19)
              clear hb19 hs19 HI18 d0 d1 d2 d3 d4 d5 d6 d7 HM18 HG18 HS18 HB18
              go_upto_region 31 with fail
              have hg1 := Blk.new w19 38 #[.slice A2 L2.length cc2]
              have hb3a := bone w19 (.cells #[.slice A2 L2.length cc2] 38)
              have hb3b := bone (w19.alloc (.cells #[.slice A2 L2.length cc2] 38)) (.cells #[.int .i64 x2, .int .i64 y2] 40)
              obtain ⟨w20, hw20⟩ : ∃ w20, (w19.alloc (.cells #[.slice A2 L2.length cc2] 38)).alloc (.cells #[.int .i64 x2, .int .i64 y2] 40) = w20 := ⟨_, rfl⟩
              have hg1 := hg1.now hb3b
              have hb78 := bthen hb3a hb3b
              rw [hw20] at hg1 hb78 ⊢
              have HG20 := Lib.hid hg1
              have HB20 := Lib.hid (bthen HBF.out (bthen HB19.out hb78))
              have a0 := (HG19.out.now hb78).c1
              have a1 := HG20.out.c1
              have HSA := Lib.hid (logSame_ref L2 _ _ w20 ⟨_, rfl, SlEv.now HT19.out hb78⟩ ⟨_, rfl, SlEv.now HS19.out hb78⟩)
              have e1 : (k2 == k2) = true := beq_self_eq_true k2
              clear hg1 hb3a hb3b hw20 hb78
              go_wp2_with fail
              (with_reducible refine HSA.out.mono ?_)
              rintro _ w21 ⟨rfl, hb21⟩
              have HB21 := Lib.hid (bthen HB20.out hb21)
              clear hb21
              go_wp2_with fail
              go_ret
              exact ⟨rfl, HB21.out⟩
theorem importsColumns_row (rows : List (List Bt)) (m : Mp) (n k : Int) (v um : Value) (w : World) (h : SlSS (Lt w.heap.size) w v rows) (hm : IsMp (Lt w.heap.size) w um m) (hn : (Lit.int .u8 n).wf = true) (hk : (Lit.int .u8 k).wf = true) (ha : AmbP w) :
    Calls Tryz.prog 6 #[v, um, .int .u8 n, .int .u8 k] w fun e w' => e = .returned (.bool true) ∧ Below w.heap.size w w' := by
  obtain ⟨c, rfl⟩ := byte_of_wf hn
  obtain ⟨d, rfl⟩ := byte_of_wf hk
  exact importsColumns_law rows m c d v um w h hm ha
end Go.Proofs.YtoalecalahkblaaGreatDoor
