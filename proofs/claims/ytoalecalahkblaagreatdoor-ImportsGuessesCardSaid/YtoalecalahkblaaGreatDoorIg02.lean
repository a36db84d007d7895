/- Texts of this seat, merged. -/
import Derived.Deep.CutRange
import Derived.Deep.CutBlock
import Derived.Test.YtoalecalahkblaaGreatDoorIw03
import Derived.StillTailTactics
import Derived.RegionTactic
import Derived.Test.YtoalecalahkblaaGreatDoorProg
import Derived.Outline
import Derived.Shelf.Abstract
import Derived.Test.YtoalecalahkblaaGreatDoorIw01
import Derived.Maps.AppendAt
import Derived.Deep.AppendLies
import Derived.OwnWalk
import Derived.WalkKit
import Derived.WalkSpells
import Derived.WalkLawsBesides
import Derived.Lib.Hide
import Derived.Deep.Draws
import Derived.Deep.OwnRows
import Derived.Test.YtoalecalahkblaaGreatDoorIw02
import Derived.Deep.Light
import Derived.Shelf.Strings.Builder1
import Derived.Shelf.Strings.Builder2
import Derived.Shelf.Small.Bits
import Derived.Shelf.Small.Strs
import Derived.Shelf.Small.Wraps
import Derived.Shelf.Strings.BuilderF
import Derived.Shelf.Strings.BuilderK
import Derived.Shelf.Strings.Builder2Cap
import Derived.Shelf.Strconv.Atoi
import Derived.Shelf.Strconv.Itoa0
import Derived.Shelf.Strconv.Itoa1
import Derived.Shelf.LaysM
import Derived.Shelf.Strconv.Itoa2
import Derived.Shelf.Strconv.Itoa3
import Derived.Shelf.Strconv.AtoiErrFast
import Derived.Shelf.Strconv.ParseIntEmpty
import Derived.Shelf.Strconv.AtoiFail
import Derived.Shelf.Strconv.Clone
import Derived.Shelf.Strconv.SyntaxError
import Derived.Shelf.LaysC
import Derived.Shelf.Strconv.ToError
import Derived.Shelf.Strconv.Lower
import Derived.Shelf.Strconv.ParseUint10
import Derived.Shelf.Strconv.ParseUint10Empty
import Derived.Shelf.Strconv.ParseUint10Any
import Derived.Shelf.Strconv.ParseInt10
import Derived.Shelf.Strconv.AtoiLong
import Derived.Shelf.Strconv.AtoiInnerAll
import Derived.Shelf.Strconv.RangeError
import Derived.Shelf.Strconv.ToErrorRange
import Derived.Shelf.Strconv.AtoiAll
import Derived.Shelf.Strconv.ErrVarAll
import Derived.Shelf.Strings.Search1
import Derived.Shelf.Strings.Search2
import Derived.Shelf.Strings.Search3
import Derived.Shelf.Strings.Count
import Derived.Shelf.Strings.Shaped
import Derived.Shelf.Sort.Plain
import Derived.Shelf.Strings.Prefix
import Derived.Shelf.Strings.Split
import Derived.Shelf.Strings.Replace
import Derived.Shelf.Unicode.DecodeSlow
import Derived.Shelf.Strings.BuilderCap
import Derived.Shelf.Slices.Turned
import Derived.Ground.Names2Prog
import Derived.Shelf.Slices.Clone
import Derived.Shelf.Slices.CompactS
import Derived.Shelf.Slices.Cells
import Derived.Shelf.Slices.In.SortNone
import Derived.Ground.SlgnProg
import Derived.Shelf.SlicesE.Compact
import Derived.Shelf.SlicesE.Clone
import Derived.Ground.SlgfProg
import Derived.Shelf.SlicesE.IndexFunc
import Derived.Shelf.SlicesE.DeleteFunc
import Derived.Test.YtoalecalahkblaaGreatDoorIw06
import Derived.Test.YtoalecalahkblaaGreatDoorIw05
import Derived.Test.YtoalecalahkblaaGreatDoorIw04
import Derived.Deep.QuietTactic
import Derived.BigQuiet
import Derived.Lib.AppendStr
import Derived.Lib.OwnKind
import Derived.Lib.OthersKept
import Derived.Lib.UnsafeStr
import Derived.Laws.IdiomStrings
import Derived.Laws.BytesString
import Derived.Laws.MakeOwn
import Derived.Laws.Entries
import Derived.Test.YtoalecalahkblaaGreatDoorRows
import Derived.Test.YtoalecalahkblaaGreatDoorTie
import Derived.Test.YtoalecalahkblaaGreatDoorCards
import Derived.SevenTiedAt
import Derived.LaidLaws
import Derived.Lib.LaidTab
import Derived.Lay
import Derived.MakeChecks
import Derived.Shelf.Vars
import Derived.Test.YtoalecalahkblaaGreatDoorIw09
import Derived.ProofKit
import Derived.Deep.Slices
import Derived.Deep.Fields
import Derived.Deep.Strs
import Derived.ChangeSame
import Derived.Lib.SmallJoins
import Derived.LaidMore
import Derived.OpenShut
import Derived.Stop.Joined
import Derived.Lib.AtoiErrMem
import Derived.Test.YtoalecalahkblaaGreatDoorIw08
import Derived.Test.YtoalecalahkblaaGreatDoorIw07
import Derived.Shelf.SlSortCmp.WholeK
import Derived.Shelf.SlSortCmp.NoneTotal
import Derived.Shelf.SlSortCmp.InsertionK
import Derived.Ground.SlsfProg
import Derived.Sort.WalkA
import Derived.Sort.LotA
import Derived.Lib.SlicesCompact
import Derived.Orders
import Derived.Deep.Quiet
import Derived.StillTail
import Derived.Deep.RegionHeld
import Derived.Deep.RegionHeld3
import Derived.Lib.Replace
import Derived.Lib.IndexLaws
import Derived.Lib.Builder
import Derived.Lib.FrozenHead2
import Derived.Laws.Externs
import Derived.Laws.StructEq
import Derived.Test.YtoalecalahkblaaGreatDoorIg01
set_option linter.all false
set_option linter.all false
namespace Go.Proofs.YtoalecalahkblaaGreatDoor
open Go.RowKit
def wCas : List Bt := [[99, 97, 115, 101], [99, 97, 115, 101, 95, 105, 100], [99, 97, 115, 101, 105, 100]]
def wAct : List Bt := [[97, 99, 116, 105, 118, 105, 116, 121], [97, 99, 116], [101, 118, 101, 110, 116]]
def wRes : List Bt := [[114, 101, 115, 111, 117, 114, 99, 101], [114, 101, 115], [117, 115, 101, 114]]
def wLife : List Bt := [[108, 105, 102, 101], [108, 105, 102, 101, 99, 121, 99, 108, 101]]
def wTime : List Bt := [[116, 105, 109, 101], [116, 105, 109, 101, 115, 116, 97, 109, 112], [109, 105, 110, 117, 116, 101]]
def wds0 : Wds := ⟨wCas, wAct, wRes, wLife, wTime⟩
theorem apart0 : Apart wds0 := by constructor <;> decide
def RetMp (p : Mp × Int) (w : World) (e : Ending) (w' : World) : Prop := ∃ u, e = .returned (.tuple #[u, .int .i64 p.2]) ∧ IsMp (Lt w'.heap.size) w' u p.1 ∧ Below w.heap.size w w'
theorem slP_lit (w : World) (t : TypeId) (ws : List Bt) (hm : ws.length ≤ 1000) (hl : ∀ l ∈ ws, l.length ≤ 1000) :
    SlP (Lt (w.alloc (.cells (ws.map fun l => Value.string (bsOf l)).toArray t)).heap.size) (w.alloc (.cells (ws.map fun l => Value.string (bsOf l)).toArray t)) (.slice (some ⟨w.heap.size, 0, none⟩) ws.length ws.length) ws := by
  have e : (ws.map fun l => Value.string (bsOf l)) = (ws.map bsOf).map Value.string := by rw [List.map_map]; rfl
  rw [e]
  have h := SlS.ofBlk (zs := ws.map bsOf) (Blk.new w t ((ws.map bsOf).map Value.string).toArray) (by rw [List.length_map]; unfold maxLen; omega) (by
    intro z hz
    obtain ⟨l, hl', rfl⟩ := List.mem_map.1 hz
    have := hl l hl'
    rw [bs_size]; unfold maxLen; omega)
  rw [List.length_map] at h
  exact h
theorem isMp_zero (w : World) : IsMp (Lt w.heap.size) w (.agg #[.int .i64 0, .int .i64 0, .int .i64 0, .int .i64 0, .int .i64 0, .slice none 0 0, .slice none 0 0, .int .u8 0]) Mp.zero :=
  ⟨.slice none 0 0, .slice none 0 0, rfl, ⟨by unfold Fit; decide, by unfold Fit; decide, by unfold Fit; decide, by unfold Fit; decide, by unfold Fit; decide⟩, Sl.none_, Sl.none_⟩

-- FINDS
theorem find_at (u : Value) (cells ws : List Bt) (W : World) (t : TypeId) (hu : SlP (Lt W.heap.size) W u cells) (hs : ∀ l ∈ cells, l.length ≤ 1000000) (hm : ws.length ≤ 1000) (hl : ∀ l ∈ ws, l.length ≤ 1000) :
    Calls Tryz.prog 74 #[u, .slice (some ⟨W.heap.size, 0, none⟩) ws.length ws.length] (W.alloc (.cells (ws.map fun l => Value.string (bsOf l)).toArray t)) fun e w' => e = .returned (.int .i64 (findB ws cells)) ∧ Below W.heap.size W w' :=
  (find_any u _ cells ws _ (hu.now (bone W _)) (slP_lit W t ws hm hl) hs).mono fun _ _ h => ⟨h.1, bthen (bone W _) h.2⟩
theorem findCas (u : Value) (cells : List Bt) (W : World) (hu : SlP (Lt W.heap.size) W u cells) (hs : ∀ l ∈ cells, l.length ≤ 1000000) :
    Calls Tryz.prog 74 #[u, .slice (some ⟨W.heap.size, 0, none⟩) 3 3] (W.alloc (.cells #[.string ⟨#[99, 97, 115, 101]⟩, .string ⟨#[99, 97, 115, 101, 95, 105, 100]⟩, .string ⟨#[99, 97, 115, 101, 105, 100]⟩] 9)) fun e w' => e = .returned (.int .i64 (findB wCas cells)) ∧ Below W.heap.size W w' :=
  find_at u cells wCas W 9 hu hs (by decide) (by decide)
theorem findAct (u : Value) (cells : List Bt) (W : World) (hu : SlP (Lt W.heap.size) W u cells) (hs : ∀ l ∈ cells, l.length ≤ 1000000) :
    Calls Tryz.prog 74 #[u, .slice (some ⟨W.heap.size, 0, none⟩) 3 3] (W.alloc (.cells #[.string ⟨#[97, 99, 116, 105, 118, 105, 116, 121]⟩, .string ⟨#[97, 99, 116]⟩, .string ⟨#[101, 118, 101, 110, 116]⟩] 9)) fun e w' => e = .returned (.int .i64 (findB wAct cells)) ∧ Below W.heap.size W w' :=
  find_at u cells wAct W 9 hu hs (by decide) (by decide)
theorem findRes (u : Value) (cells : List Bt) (W : World) (hu : SlP (Lt W.heap.size) W u cells) (hs : ∀ l ∈ cells, l.length ≤ 1000000) :
    Calls Tryz.prog 74 #[u, .slice (some ⟨W.heap.size, 0, none⟩) 3 3] (W.alloc (.cells #[.string ⟨#[114, 101, 115, 111, 117, 114, 99, 101]⟩, .string ⟨#[114, 101, 115]⟩, .string ⟨#[117, 115, 101, 114]⟩] 9)) fun e w' => e = .returned (.int .i64 (findB wRes cells)) ∧ Below W.heap.size W w' :=
  find_at u cells wRes W 9 hu hs (by decide) (by decide)
theorem findLife (u : Value) (cells : List Bt) (W : World) (hu : SlP (Lt W.heap.size) W u cells) (hs : ∀ l ∈ cells, l.length ≤ 1000000) :
    Calls Tryz.prog 74 #[u, .slice (some ⟨W.heap.size, 0, none⟩) 2 2] (W.alloc (.cells #[.string ⟨#[108, 105, 102, 101]⟩, .string ⟨#[108, 105, 102, 101, 99, 121, 99, 108, 101]⟩] 9)) fun e w' => e = .returned (.int .i64 (findB wLife cells)) ∧ Below W.heap.size W w' :=
  find_at u cells wLife W 9 hu hs (by decide) (by decide)
theorem findTime (u : Value) (cells : List Bt) (W : World) (hu : SlP (Lt W.heap.size) W u cells) (hs : ∀ l ∈ cells, l.length ≤ 1000000) :
    Calls Tryz.prog 74 #[u, .slice (some ⟨W.heap.size, 0, none⟩) 3 3] (W.alloc (.cells #[.string ⟨#[116, 105, 109, 101]⟩, .string ⟨#[116, 105, 109, 101, 115, 116, 97, 109, 112]⟩, .string ⟨#[109, 105, 110, 117, 116, 101]⟩] 9)) fun e w' => e = .returned (.int .i64 (findB wTime cells)) ∧ Below W.heap.size W w' :=
  find_at u cells wTime W 9 hu hs (by decide) (by decide)
theorem Blk.set8m {w : World} {g : Nat} {t : TypeId} {a b c d e f x y : Value} (h : Blk w g t #[a, b, c, d, e, f, x, y]) (a' b' c' d' e' f' x' y' : Value) :
    Blk ((((((((w.setCell ⟨g, 0, none⟩ a').setCell ⟨g, 1, none⟩ b').setCell ⟨g, 2, none⟩ c').setCell ⟨g, 3, none⟩ d').setCell ⟨g, 4, none⟩ e').setCell ⟨g, 5, none⟩ f').setCell ⟨g, 6, none⟩ x').setCell ⟨g, 7, none⟩ y') g t #[a', b', c', d', e', f', x', y'] :=
  by
  have h0 := h.set_ 0 a'
  have h1 := Blk.set_ (show Blk _ g t #[a', b, c, d, e, f, x, y] from h0) 1 b'
  have h2 := Blk.set_ (show Blk _ g t #[a', b', c, d, e, f, x, y] from h1) 2 c'
  have h3 := Blk.set_ (show Blk _ g t #[a', b', c', d, e, f, x, y] from h2) 3 d'
  have h4 := Blk.set_ (show Blk _ g t #[a', b', c', d', e, f, x, y] from h3) 4 e'
  have h5 := Blk.set_ (show Blk _ g t #[a', b', c', d', e', f, x, y] from h4) 5 f'
  have h6 := Blk.set_ (show Blk _ g t #[a', b', c', d', e', f', x, y] from h5) 6 x'
  exact Blk.set_ (show Blk _ g t #[a', b', c', d', e', f', x', y] from h6) 7 y'
theorem own_far8 {w : World} {B t n P : Nat} {v : Value} {xs : List Value} (h : w.ownsRow B t 1 v n xs) (hP : P < B) (a b c d e f x y : Value) :
    ((((((((w.setCell ⟨P, 0, none⟩ a).setCell ⟨P, 1, none⟩ b).setCell ⟨P, 2, none⟩ c).setCell ⟨P, 3, none⟩ d).setCell ⟨P, 4, none⟩ e).setCell ⟨P, 5, none⟩ f).setCell ⟨P, 6, none⟩ x).setCell ⟨P, 7, none⟩ y).ownsRow B t 1 v n xs := by
  have key : ∀ (w : World) (k : Nat) (u : Value), w.ownsRow B t 1 v n xs → (w.setCell ⟨P, k, none⟩ u).ownsRow B t 1 v n xs := fun w k u hh =>
    World.ownsRow.kept hh (⟨rfl, rfl, rfl, by simp, fun i _ hne => Below.heap_setCell w ⟨P, k, none⟩ u i (fun e => hne (by rw [e]))⟩ : w.grownBy (w.setCell ⟨P, k, none⟩ u) (some P)) (.inr fun e => by have := (World.ownsRow.lt hh P e).1; omega)
  exact key _ _ _ (key _ _ _ (key _ _ _ (key _ _ _ (key _ _ _ (key _ _ _ (key _ _ _ (key _ _ _ h)))))))
theorem OwnZ.open_ {base : Nat} {w : World} {v : Value} {l : List Int} (h : OwnZ w base v l) : ∃ A c, v = .slice A l.length c := by
  rcases h.2 with ⟨rfl, h0⟩ | ⟨g, cap, cur, rfl, _⟩
  · rw [h0]; exact ⟨none, 0, rfl⟩
  · exact ⟨_, _, rfl⟩
theorem OwnZ.open' {base : Nat} {w : World} {v : Value} {l : List Int} (h : OwnZ w base v l) : ∃ A n c, v = .slice A n c := by
  obtain ⟨A, c, e⟩ := OwnZ.open_ h
  exact ⟨A, _, c, e⟩
theorem pick_step {T : List Int} {k : Nat} {seen : List Bt} {data : List Int} {cells : List Bt} {s : Bt} (h : cells[k]? = some s) : pickB T k seen data (cells.drop k) =
    if data.length = 8 ∨ (k : Int) ∈ T ∨ isNameB ⟨s.toArray⟩ = false ∨ s ∈ seen then pickB T (k + 1) seen data (cells.drop (k + 1)) else pickB T (k + 1) (seen ++ [s]) (data ++ [(k : Int)]) (cells.drop (k + 1)) := by
  obtain ⟨hk, rfl⟩ := List.getElem?_eq_some_iff.1 h
  rw [List.drop_eq_getElem_cons hk]
  show pickB T k seen data (cells[k] :: cells.drop (k + 1)) = _
  conv => lhs; unfold pickB
theorem pick_done {T : List Int} {k : Nat} {seen : List Bt} {data : List Int} {cells : List Bt} (h : cells.length ≤ k) : pickB T k seen data (cells.drop k) = data := by
  rw [List.drop_eq_nil_of_le h]; unfold pickB; rfl
theorem bset8m {w w1 : World} {B g : Nat} (h : Below B w w1) (hg : B ≤ g) (a b c d e f x y : Value) :
    Below B w ((((((((w1.setCell ⟨g, 0, none⟩ a).setCell ⟨g, 1, none⟩ b).setCell ⟨g, 2, none⟩ c).setCell ⟨g, 3, none⟩ d).setCell ⟨g, 4, none⟩ e).setCell ⟨g, 5, none⟩ f).setCell ⟨g, 6, none⟩ x).setCell ⟨g, 7, none⟩ y) :=
  chg_set (chg_set (chg_set (chg_set (chg_set (chg_set (chg_set (chg_set h hg) hg) hg) hg) hg) hg) hg) hg
set_option maxHeartbeats 2000000 in
set_option maxRecDepth 100000 in
theorem guess_long (u : Value) (cells : List Bt) (w : World) (hu : SlP (Lt w.heap.size) w u cells) (hs : ∀ l ∈ cells, l.length ≤ 1000000) (h40 : 40 < cells.length) :
    Calls Tryz.prog 30 #[u] w (RetMp (guessE wds0 cells) w) := by
  have HS := Lib.hid hs
  have HU := Lib.hid hu
  obtain ⟨A, c, rfl, h1, h2, _⟩ := hu.open_
  clear hs hu
  have HP := Blk.new w 33 #[.int .i64 0, .int .i64 0, .int .i64 0, .int .i64 0, .int .i64 0, .slice none 0 0, .slice none 0 0, .int .u8 0]
  have HB := Lib.hid (bone w (.cells #[.int .i64 0, .int .i64 0, .int .i64 0, .int .i64 0, .int .i64 0, .slice none 0 0, .slice none 0 0, .int .u8 0] 33))
  have i1 : (40 : Int) < (cells.length : Int) := by omega
  have HE : Hid (guessE wds0 cells = (Mp.zero, 5)) := by show _ = _; unfold guessE; rw [if_pos h40]
  clear h40
  go_enter Tryz.func30, Tryz.ntmps30
  go_wp2_with fail
  obtain ⟨w0, hw0⟩ : ∃ w0, w.alloc (.cells #[.int .i64 0, .int .i64 0, .int .i64 0, .int .i64 0, .int .i64 0, .slice none 0 0, .slice none 0 0, .int .u8 0] 33) = w0 := ⟨_, rfl⟩
  rw [hw0] at HP HB ⊢
  obtain ⟨q0, q1, q2, q3, q4, q5, q6, q7⟩ := HP.c8m
  refine bodyPost_ret (v := .tuple #[.agg #[.int .i64 0, .int .i64 0, .int .i64 0, .int .i64 0, .int .i64 0, .slice none 0 0, .slice none 0 0, .int .u8 0], .int .i64 5]) (by simp [results, Tryz.results30, go_sem, q0, q1, q2, q3, q4, q5, q6, q7]) rfl ?_
  show RetMp _ _ _ _
  rw [HE.out]
  exact ⟨_, rfl, isMp_zero _, HB.out⟩
set_option maxHeartbeats 4000000 in
set_option maxRecDepth 100000 in
theorem guess_short (u : Value) (cells : List Bt) (w : World) (hu : SlP (Lt w.heap.size) w u cells) (hs : ∀ l ∈ cells, l.length ≤ 1000000) (h40 : ¬ 40 < cells.length) :
    Calls Tryz.prog 30 #[u] w (RetMp (guessE wds0 cells) w) := by
  have HS := Lib.hid hs
  have HU := Lib.hid hu
  obtain ⟨A, c, rfl, h1, h2, _⟩ := hu.open_
  clear hs hu
  have HP := Blk.new w 33 #[.int .i64 0, .int .i64 0, .int .i64 0, .int .i64 0, .int .i64 0, .slice none 0 0, .slice none 0 0, .int .u8 0]
  have HB := Lib.hid (bone w (.cells #[.int .i64 0, .int .i64 0, .int .i64 0, .int .i64 0, .int .i64 0, .slice none 0 0, .slice none 0 0, .int .u8 0] 33))
  have i1 : ¬ (40 : Int) < (cells.length : Int) := by omega
  have HE : Hid (guessE wds0 cells = if findB wCas cells < 0 ∨ findB wAct cells < 0 ∨ findB wTime cells < 0 then (Mp.zero, 10) else
      ({ (⟨findB wCas cells, findB wAct cells, findB wRes cells, findB wLife cells, findB wTime cells, [], [], 44⟩ : Mp) with data := pickB (fieldsB ⟨findB wCas cells, findB wAct cells, findB wRes cells, findB wLife cells, findB wTime cells, [], [], 44⟩) 0 [] [] cells, kinds := List.replicate (pickB (fieldsB ⟨findB wCas cells, findB wAct cells, findB wRes cells, findB wLife cells, findB wTime cells, [], [], 44⟩) 0 [] [] cells).length 3 }, 0)) := by
    show _ = _; unfold guessE; rw [if_neg h40]; rfl
  have HCN : Hid (¬ 40 < cells.length) := h40
  clear h40
  go_enter Tryz.func30, Tryz.ntmps30
  go_upto_region 3 with fail
  obtain ⟨w0, hw0⟩ : ∃ w0, w.alloc (.cells #[.int .i64 0, .int .i64 0, .int .i64 0, .int .i64 0, .int .i64 0, .slice none 0 0, .slice none 0 0, .int .u8 0] 33) = w0 := ⟨_, rfl⟩
  rw [hw0] at HP HB ⊢
  have HGP : Hid (w.heap.size < w0.heap.size) := HP.lt
  have HP := Lib.hid HP
  clear hw0
  have HU0 := Lib.hid (HU.out.now HB.out)
  have HX0 := Lib.hid (Below.refl w0.heap.size w0)
  go_wp2_with fail
  (with_reducible refine (findCas _ cells w0 HU0.out HS.out).mono ?_)
  rintro e w1 ⟨rfl, hb⟩
  have HX1 := Lib.hid (HX0.out.trans (hb.mono HX0.out.size))
  have HU1 := Lib.hid (HU0.out.now hb)
  clear hb HX0 HU0
  go_wp2_with fail
  (with_reducible refine (findAct _ cells w1 HU1.out HS.out).mono ?_)
  rintro e w2 ⟨rfl, hb⟩
  have HX2 := Lib.hid (HX1.out.trans (hb.mono HX1.out.size))
  have HU2 := Lib.hid (HU1.out.now hb)
  clear hb HX1 HU1
  go_wp2_with fail
  (with_reducible refine (findRes _ cells w2 HU2.out HS.out).mono ?_)
  rintro e w3 ⟨rfl, hb⟩
  have HX3 := Lib.hid (HX2.out.trans (hb.mono HX2.out.size))
  have HU3 := Lib.hid (HU2.out.now hb)
  clear hb HX2 HU2
  go_wp2_with fail
  (with_reducible refine (findLife _ cells w3 HU3.out HS.out).mono ?_)
  rintro e w4 ⟨rfl, hb⟩
  have HX4 := Lib.hid (HX3.out.trans (hb.mono HX3.out.size))
  have HU4 := Lib.hid (HU3.out.now hb)
  clear hb HX3 HU3
  go_wp2_with fail
  (with_reducible refine (findTime _ cells w4 HU4.out HS.out).mono ?_)
  rintro e w5 ⟨rfl, hb⟩
  have HX5 := Lib.hid (HX4.out.trans (hb.mono HX4.out.size))
  have HU5 := Lib.hid (HU4.out.now hb)
  clear hb HX4 HU4
  have hz1 := findB_bound wCas cells
  have hz2 := findB_bound wAct cells
  have hz3 := findB_bound wRes cells
  have hz4 := findB_bound wLife cells
  have hz5 := findB_bound wTime cells
  generalize findB wCas cells = z1 at *
  generalize findB wAct cells = z2 at *
  generalize findB wRes cells = z3 at *
  generalize findB wLife cells = z4 at *
  generalize findB wTime cells = z5 at *
  go_upto_region 4 with fail
  have HG := Blk.new w5 33 #[.int .i64 z1, .int .i64 z2, .int .i64 z3, .int .i64 z4, .int .i64 z5, .slice none 0 0, .slice none 0 0, .int .u8 44]
  have HB6 := bone w5 (.cells #[.int .i64 z1, .int .i64 z2, .int .i64 z3, .int .i64 z4, .int .i64 z5, .slice none 0 0, .slice none 0 0, .int .u8 44] 33)
  obtain ⟨w6, hw6⟩ : ∃ w6, w5.alloc (.cells #[.int .i64 z1, .int .i64 z2, .int .i64 z3, .int .i64 z4, .int .i64 z5, .slice none 0 0, .slice none 0 0, .int .u8 44] 33) = w6 := ⟨_, rfl⟩
  rw [hw6] at HG HB6 ⊢
  clear hw6
  have HP6 := Lib.hid ((HP.out.below HX5.out HGP.out).now HB6)
  have HBw := Lib.hid (bthen (HB.out.trans (HX5.out.mono (HB.out.size))) HB6)
  have HB5 := Lib.hid (HB.out.trans (HX5.out.mono HB.out.size))
  have HPG : Hid (w.heap.size < w5.heap.size) := Nat.lt_of_lt_of_le HGP.out HX5.out.size
  obtain ⟨G, hGe⟩ : ∃ G, w5.heap.size = G := ⟨_, rfl⟩
  rw [hGe] at HG HPG ⊢
  have HS5 := Lib.hid hGe
  have H56 := Lib.hid HB6
  have HGL : Hid (G < w6.heap.size) := HG.lt
  obtain ⟨P, hPe⟩ : ∃ P, w.heap.size = P := ⟨_, rfl⟩
  rw [hPe] at HP6 HPG ⊢
  have HPW := Lib.hid hPe
  have HG := Lib.hid HG
  clear HB6 hGe hPe HX5 HP HGP HB HU
  by_cases e1 : z1 < 0 ∨ z2 < 0 ∨ z5 < 0
  · have HE2 : Hid (guessE wds0 cells = (Mp.zero, 10)) := by show _ = _; rw [HE.out, if_pos e1]
    obtain ⟨c0, c1, c2, c3, c4, c5, c6, c7⟩ := HG.out.c8m
    obtain ⟨p0, p1, p2, p3, p4, p5, p6, p7⟩ := HP6.out.c8m
    have f0 := HP6.out.frozen 0
    have f1 := HP6.out.frozen 1
    have f2 := HP6.out.frozen 2
    have f3 := HP6.out.frozen 3
    have f4 := HP6.out.frozen 4
    have f5 := HP6.out.frozen 5
    have f6 := HP6.out.frozen 6
    have f7 := HP6.out.frozen 7
    have HR := Lib.hid (HP6.out.set8m (.int .i64 0) (.int .i64 0) (.int .i64 0) (.int .i64 0) (.int .i64 0) (.slice none 0 0) (.slice none 0 0) (.int .u8 0))
    have HBR := Lib.hid (bset8m (g := P) HBw.out (by rw [HPW.out]; exact Nat.le_refl _) (.int .i64 0) (.int .i64 0) (.int .i64 0) (.int .i64 0) (.int .i64 0) (.slice none 0 0) (.slice none 0 0) (.int .u8 0))
    by_cases a1 : z1 < 0
    · clear e1
      go_wp2_with fail
      obtain ⟨W8, hW8⟩ : ∃ W8, ((((((((w6.setCell ⟨P, 0, none⟩ (.int .i64 0)).setCell ⟨P, 1, none⟩ (.int .i64 0)).setCell ⟨P, 2, none⟩ (.int .i64 0)).setCell ⟨P, 3, none⟩ (.int .i64 0)).setCell ⟨P, 4, none⟩ (.int .i64 0)).setCell ⟨P, 5, none⟩ (.slice none 0 0)).setCell ⟨P, 6, none⟩ (.slice none 0 0)).setCell ⟨P, 7, none⟩ (.int .u8 0)) = W8 := ⟨_, rfl⟩
      rw [hW8] at HR HBR ⊢
      clear hW8
      obtain ⟨q0, q1, q2, q3, q4, q5, q6, q7⟩ := HR.out.c8m
      refine bodyPost_ret (v := .tuple #[.agg #[.int .i64 0, .int .i64 0, .int .i64 0, .int .i64 0, .int .i64 0, .slice none 0 0, .slice none 0 0, .int .u8 0], .int .i64 10]) (by simp [results, Tryz.results30, go_sem, q0, q1, q2, q3, q4, q5, q6, q7]) rfl ?_
      show RetMp _ _ _ _
      rw [HE2.out]
      exact ⟨_, rfl, isMp_zero _, HBR.out⟩
    · by_cases a2 : z2 < 0
      · clear e1
        go_wp2_with fail
        obtain ⟨W8, hW8⟩ : ∃ W8, ((((((((w6.setCell ⟨P, 0, none⟩ (.int .i64 0)).setCell ⟨P, 1, none⟩ (.int .i64 0)).setCell ⟨P, 2, none⟩ (.int .i64 0)).setCell ⟨P, 3, none⟩ (.int .i64 0)).setCell ⟨P, 4, none⟩ (.int .i64 0)).setCell ⟨P, 5, none⟩ (.slice none 0 0)).setCell ⟨P, 6, none⟩ (.slice none 0 0)).setCell ⟨P, 7, none⟩ (.int .u8 0)) = W8 := ⟨_, rfl⟩
        rw [hW8] at HR HBR ⊢
        clear hW8
        obtain ⟨q0, q1, q2, q3, q4, q5, q6, q7⟩ := HR.out.c8m
        refine bodyPost_ret (v := .tuple #[.agg #[.int .i64 0, .int .i64 0, .int .i64 0, .int .i64 0, .int .i64 0, .slice none 0 0, .slice none 0 0, .int .u8 0], .int .i64 10]) (by simp [results, Tryz.results30, go_sem, q0, q1, q2, q3, q4, q5, q6, q7]) rfl ?_
        show RetMp _ _ _ _
        rw [HE2.out]
        exact ⟨_, rfl, isMp_zero _, HBR.out⟩
      · have a3 : z5 < 0 := by omega
        clear e1
        go_wp2_with fail
        obtain ⟨W8, hW8⟩ : ∃ W8, ((((((((w6.setCell ⟨P, 0, none⟩ (.int .i64 0)).setCell ⟨P, 1, none⟩ (.int .i64 0)).setCell ⟨P, 2, none⟩ (.int .i64 0)).setCell ⟨P, 3, none⟩ (.int .i64 0)).setCell ⟨P, 4, none⟩ (.int .i64 0)).setCell ⟨P, 5, none⟩ (.slice none 0 0)).setCell ⟨P, 6, none⟩ (.slice none 0 0)).setCell ⟨P, 7, none⟩ (.int .u8 0)) = W8 := ⟨_, rfl⟩
        rw [hW8] at HR HBR ⊢
        clear hW8
        obtain ⟨q0, q1, q2, q3, q4, q5, q6, q7⟩ := HR.out.c8m
        refine bodyPost_ret (v := .tuple #[.agg #[.int .i64 0, .int .i64 0, .int .i64 0, .int .i64 0, .int .i64 0, .slice none 0 0, .slice none 0 0, .int .u8 0], .int .i64 10]) (by simp [results, Tryz.results30, go_sem, q0, q1, q2, q3, q4, q5, q6, q7]) rfl ?_
        show RetMp _ _ _ _
        rw [HE2.out]
        exact ⟨_, rfl, isMp_zero _, HBR.out⟩
  · have a1 : ¬ z1 < 0 := fun h => e1 (.inl h)
    have a2 : ¬ z2 < 0 := fun h => e1 (.inr (.inl h))
    have a3 : ¬ z5 < 0 := fun h => e1 (.inr (.inr h))
    rw [if_neg e1] at HE
    obtain ⟨T, hT⟩ : ∃ T, fieldsB ⟨z1, z2, z3, z4, z5, [], [], 44⟩ = T := ⟨_, rfl⟩
    rw [hT] at HE
    have HT : Hid (∀ d k, fieldsB ⟨z1, z2, z3, z4, z5, d, k, 44⟩ = T) := Lib.hid fun _ _ => hT
    obtain ⟨D, hD⟩ : ∃ D, pickB T 0 [] [] cells = D := ⟨_, rfl⟩
    rw [hD] at HE
    have HD : Hid (pickB T 0 [] [] (cells.drop 0) = D) := hD
    have HFM : Hid (Fit z1 ∧ Fit z2 ∧ Fit z3 ∧ Fit z4 ∧ Fit z5) := by show _ ∧ _; unfold Fit; omega
    clear hT hD e1 i1
    obtain ⟨c0, c1, c2, c3, c4, c5, c6, c7⟩ := HG.out.c8m
    go_upto_region 6 with fail
    clear a1 a2 a3 c0 c1 c2 c3 c4 c5 c6 c7 hz1 hz2 hz3 hz4 hz5
    obtain ⟨B, hBe⟩ : ∃ B, w6.heap.size = B := ⟨_, rfl⟩
    have HR0 : Hid (GsR B w5 w6 (.slice none 0 0) (.slice none 0 0) (.slice none 0 0) [] [] []) := Lib.hid ⟨H56.out, World.ownsRow_nil _ _ _ _, World.ownsRow_nil _ _ _ _, World.ownsRow_nil _ _ _ _, fun g hg => (by cases hg), (by omega), (by have h1 := HGL.out; have h2 := HS5.out; omega)⟩
    have HGB : Hid (G < B) := by show _ < _; rw [← hBe]; exact HGL.out
    have HSZ : Hid (w6.heap.size = B) := hBe
    clear hBe HGL
    go_wp2_with fail
    go_loopw [5, 44] (fun sv iv wr => ∃ (k : Nat) (seen : List Bt) (data : List Int) (dv kv : Value), iv = .int .i64 (k : Int) ∧ k ≤ cells.length ∧ Hid (pickB T k seen data (cells.drop k) = D) ∧ Hid (GsR B w5 wr dv kv sv data (List.replicate data.length 3) seen) ∧ Hid (Blk wr G 33 #[.int .i64 z1, .int .i64 z2, .int .i64 z3, .int .i64 z4, .int .i64 z5, dv, kv, .int .u8 44]) ∧ Hid (Blk wr P 33 #[.int .i64 0, .int .i64 0, .int .i64 0, .int .i64 0, .int .i64 0, .slice none 0 0, .slice none 0 0, .int .u8 0]) ∧ Hid (data.length ≤ 8 ∧ seen.length = data.length ∧ (∀ x ∈ data, 0 ≤ x ∧ x < 1000) ∧ ∀ l ∈ seen, l.length ≤ 1000000)) (fun _ iv _ => cells.length - (intOf iv).toNat)
    case atStart => exact ⟨0, [], [], .slice none 0 0, .slice none 0 0, rfl, Nat.zero_le _, HD, HR0, HG, HP6, Lib.hid ⟨by simp, rfl, by simp, by simp⟩⟩
    case round =>
      obtain ⟨k, seen, data, dv, kv, rfl, hk, HPK, HRW, HGk, HPk, HLN⟩ := hrel
      obtain ⟨Ad, cd, rfl⟩ := OwnZ.open_ HRW.out.dat
      obtain ⟨Ak, ck, hkv⟩ := OwnZ.open_ HRW.out.kin
      rw [List.length_replicate] at hkv
      subst hkv
      obtain ⟨As, cs, rfl⟩ := OwnT.open_ HRW.out.sn
      obtain ⟨c0, c1, c2, c3, c4, c5, c6, c7⟩ := HGk.out.c8m
      by_cases hlt : k < cells.length
      · have HUk := HU5.out.now HRW.out.bel
        obtain ⟨b, o, s, rfl, hDb, hx, hml, hc⟩ := HUk.at_ hlt
        have HUK := Lib.hid HUk
        have HX := Lib.hid hx
        have HDB := Lib.hid hDb
        have HSS := Lib.hid (HS.out s (List.mem_of_getElem? hx))
        have HST := Lib.hid (pick_step (T := T) (seen := seen) (data := data) hx)
        have hk0 : (0 : Int) ≤ (k : Int) := by omega
        have hk1 : (k : Int) < (cells.length : Int) := by omega
        clear hx hml hDb HUk
        have HSKIP : Hid (pickB T (k + 1) seen data (cells.drop (k + 1)) = D → ∀ W, Below wr.heap.size wr W → GsR B w5 W (.slice Ad data.length cd) (.slice Ak data.length ck) (.slice As seen.length cs) data (List.replicate data.length 3) seen ∧ Blk W G 33 #[.int .i64 z1, .int .i64 z2, .int .i64 z3, .int .i64 z4, .int .i64 z5, .slice Ad data.length cd, .slice Ak data.length ck, .int .u8 44] ∧ Blk W P 33 #[.int .i64 0, .int .i64 0, .int .i64 0, .int .i64 0, .int .i64 0, .slice none 0 0, .slice none 0 0, .int .u8 0]) :=
          Lib.hid fun _ W hW => ⟨HRW.out.now hW, HGk.out.now hW, HPk.out.now hW⟩
        by_cases d8 : data.length = 8
        · have x8 : ((data.length : Int) == 8) = true := by rw [d8]; rfl
          have HP1 : Hid (pickB T (k + 1) seen data (cells.drop (k + 1)) = D) := by show _ = _; rw [← HPK.out, HST.out, if_pos (.inl d8)]
          clear d8
          go_wp2_with fail
          go_roundw
          case rel =>
            obtain ⟨s1, s2, s3⟩ := HSKIP.out HP1.out wr (Below.refl _ _)
            exact ⟨k + 1, seen, data, _, _, by go_num, by omega, HP1, Lib.hid s1, Lib.hid s2, Lib.hid s3, HLN⟩
          case measure => simp [intOf]; omega
        · have x8 : ((data.length : Int) == 8) = false := beq_false_of_ne (by omega)
          have HD8 := Lib.hid d8
          clear d8
          have HMP : Hid (IsMp (Lt wr.heap.size) wr (.agg #[.int .i64 z1, .int .i64 z2, .int .i64 z3, .int .i64 z4, .int .i64 z5, .slice Ad data.length cd, .slice Ak data.length ck, .int .u8 44]) ⟨z1, z2, z3, z4, z5, data, List.replicate data.length 3, 44⟩) := by
            refine Lib.hid ⟨_, _, rfl, ⟨HFM.out.1, HFM.out.2.1, HFM.out.2.2.1, HFM.out.2.2.2.1, HFM.out.2.2.2.2⟩, SlI.of_own HRW.out.dat (fun z hz => by have := HLN.out.2.2.1 z hz; unfold Fit; omega), ?_⟩
            have h := SlI.of_own HRW.out.kin (fun z hz => by rw [List.eq_of_mem_replicate hz]; unfold Fit; omega)
            exact h
          have HFD := Lib.hid (fields_any _ _ wr HMP.out)
          rw [HT.out] at HFD
          obtain ⟨q1, hq1⟩ : ∃ q1, T.contains (k : Int) = q1 := ⟨_, rfl⟩
          obtain ⟨q2, hq2⟩ : ∃ q2, isNameB (bsOf s) = q2 := ⟨_, rfl⟩
          obtain ⟨q3, hq3⟩ : ∃ q3, decide (s ∈ seen) = q3 := ⟨_, rfl⟩
          have HCZ : Hid (∀ vf W, SlI (Lt W.heap.size) W vf T → Calls Tryz.prog 61 #[vf, .int .i64 (k : Int)] W fun e w' => e = .returned (.bool q1) ∧ w' = W) := Lib.hid fun vf W hv => by
            have := containsZ vf T (k : Int) W hv
            rw [hq1] at this; exact this
          have HNM : Hid (∀ W, Calls Tryz.prog 76 #[.string (bsOf s)] W fun e w' => e = .returned (.bool q2) ∧ W = w') := Lib.hid fun W => by
            have := isName_any (bsOf s) W (by rw [bs_size]; unfold maxLen; have := HSS.out; omega)
            rw [hq2] at this; exact this
          have HCS : Hid (∀ W, Below wr.heap.size wr W → Calls Tryz.prog 77 #[.slice As seen.length cs, .string (bsOf s)] W fun e w' => e = .returned (.bool q3) ∧ w' = W) := Lib.hid fun W hW => by
            have h := own_slP HRW.out.sn (fun l hl => by have := HLN.out.2.2.2 l hl; unfold maxLen; omega)
            have := containsP _ seen s W (h.now hW)
            rw [hq3] at this; exact this
          have H1 : Hid (q1 = true ↔ (k : Int) ∈ T) := by show _ ↔ _; rw [← hq1]; simp
          have H2 : Hid (q2 = false ↔ isNameB ⟨s.toArray⟩ = false) := by show _ ↔ _; rw [← hq2]; exact Iff.rfl
          have H3 : Hid (q3 = true ↔ s ∈ seen) := by show _ ↔ _; rw [← hq3, decide_eq_true_eq]
          clear hq1 hq2 hq3 HMP
          have HP1 : Hid ((q1 = true ∨ q2 = false ∨ q3 = true) → pickB T (k + 1) seen data (cells.drop (k + 1)) = D) := Lib.hid fun h => by
            rw [← HPK.out, HST.out, if_pos]
            rcases h with h | h | h
            · exact .inr (.inl (H1.out.1 h))
            · exact .inr (.inr (.inl (H2.out.1 h)))
            · exact .inr (.inr (.inr (H3.out.1 h)))
          have HP2 : Hid (q1 = false → q2 = true → q3 = false → pickB T (k + 1) (seen ++ [s]) (data ++ [(k : Int)]) (cells.drop (k + 1)) = D) := Lib.hid fun h1 h2 h3 => by
            rw [← HPK.out, HST.out, if_neg]
            rintro (h | h | h | h)
            · exact HD8.out h
            · rw [H1.out.2 h] at h1; cases h1
            · rw [H2.out.2 h] at h2; cases h2
            · rw [H3.out.2 h] at h3; cases h3
          clear H1 H2 H3 HST
          cases q1
          · cases q2
            · go_wp2_with (first | (go_at_call 75; (with_reducible refine HFD.out.mono ?_); rintro e w7 ⟨vf, rfl, hsf, hb7⟩; have HB7 := Lib.hid hb7; have HVF := Lib.hid hsf; clear hsf hb7) | (go_at_call 61; (with_reducible refine (HCZ.out _ _ HVF.out).mono ?_); rintro e w8 ⟨rfl, rfl⟩) | (go_at_call 76; (with_reducible refine (HNM.out _).mono ?_); rintro e w8 ⟨rfl, rfl⟩) | (go_at_call 77; (with_reducible refine (HCS.out _ HB7.out).mono ?_); rintro e w8 ⟨rfl, rfl⟩))
              go_roundw
              case rel =>
                have HP1 := Lib.hid (HP1.out (by simp))
                obtain ⟨s1, s2, s3⟩ := HSKIP.out HP1.out _ HB7.out
                exact ⟨k + 1, seen, data, _, _, by go_num, by omega, HP1, Lib.hid s1, Lib.hid s2, Lib.hid s3, HLN⟩
              case measure => simp [intOf]; omega
            · cases q3
              · go_upto_region 11 with (first | (go_at_call 75; (with_reducible refine HFD.out.mono ?_); rintro e w7 ⟨vf, rfl, hsf, hb7⟩; have HB7 := Lib.hid hb7; have HVF := Lib.hid hsf; clear hsf hb7) | (go_at_call 61; (with_reducible refine (HCZ.out _ _ HVF.out).mono ?_); rintro e w8 ⟨rfl, rfl⟩) | (go_at_call 76; (with_reducible refine (HNM.out _).mono ?_); rintro e w8 ⟨rfl, rfl⟩) | (go_at_call 77; (with_reducible refine (HCS.out _ HB7.out).mono ?_); rintro e w8 ⟨rfl, rfl⟩))
                obtain ⟨w9, hw9⟩ : ∃ w9, w8 = w9 := ⟨_, rfl⟩
                rw [hw9] at HB7 ⊢
                clear hw9
                have HR9 := Lib.hid (HRW.out.now HB7.out)
                have HG9 := Lib.hid (HGk.out.now HB7.out)
                have HP9 := Lib.hid (HPk.out.now HB7.out)
                have HN9 : Hid (seen.length < 10000000 ∧ data.length < 1000000) := by show _ ∧ _; have := HLN.out; omega
                clear HRW HGk HPk HB7 HSKIP HFD HCZ HNM HCS HVF c0 c1 c2 c3 c4 c5 c6 c7
                go_upto_region 12 with (at_builtin; refine wpList_push appStr rfl (.tmp 69) (.tmp 71) rfl w9 [.string (bsOf s)] rfl (by simp [Value.oneCell']) _ seen.length (seen.map fun l => Value.string (bsOf l)) rfl HR9.out.sn rfl HN9.out.1 HR9.out.size ?_; intro v9 w10 hown hgr hat)
                have HR10 := Lib.hid (HR9.out.addS hown hgr)
                have HGx : Hid (some G ≠ (Value.slice As seen.length cs).ownBlock) := Lib.hid fun e => by have := (World.ownsRow.lt HR9.out.sn G e.symm).1; have := HGB.out; omega
                have HPx : Hid (some P ≠ (Value.slice As seen.length cs).ownBlock) := Lib.hid fun e => by have := (World.ownsRow.lt HR9.out.sn P e.symm).1; have := HGB.out; have := HPG.out; omega
                have HG10 := Lib.hid (HG9.out.grown hgr HGx.out)
                have HP10 := Lib.hid (HP9.out.grown hgr HPx.out)
                clear HR9 HG9 HP9 HGx HPx hown hgr hat
                have HPD := Lib.hid (HP2.out (by simp) (by simp) (by simp))
                have HLD : Hid ((data ++ [(k : Int)]).length ≤ 8 ∧ (seen ++ [s]).length = (data ++ [(k : Int)]).length ∧ (∀ x ∈ data ++ [(k : Int)], 0 ≤ x ∧ x < 1000) ∧ ∀ l ∈ seen ++ [s], l.length ≤ 1000000) := by
                  obtain ⟨l1, l2, l3, l4⟩ := HLN.out
                  have l0 := HD8.out
                  have lc := HCN.out
                  refine Lib.hid ⟨?_, ?_, ?_, ?_⟩
                  · rw [List.length_append, List.length_singleton]; omega
                  · rw [List.length_append, List.length_append, List.length_singleton, List.length_singleton]; omega
                  · intro x hx
                    rcases List.mem_append.1 hx with h | h
                    · exact l3 x h
                    · rw [List.mem_singleton] at h; omega
                  · intro x hx
                    rcases List.mem_append.1 hx with h | h
                    · exact l4 x h
                    · rw [List.mem_singleton] at h; rw [h]; exact HSS.out
                have HREL : Hid (∀ W V1 V2 V3, GsR B w5 W V1 V2 V3 (data ++ [(k : Int)]) (List.replicate data.length 3 ++ [3]) (seen ++ [s]) → Blk W G 33 #[.int .i64 z1, .int .i64 z2, .int .i64 z3, .int .i64 z4, .int .i64 z5, .slice Ad data.length cd, .slice Ak data.length ck, .int .u8 44] → Blk W P 33 #[.int .i64 0, .int .i64 0, .int .i64 0, .int .i64 0, .int .i64 0, .slice none 0 0, .slice none 0 0, .int .u8 0] →
                    GsR B w5 ((W.setCell ⟨G, 5, none⟩ V1).setCell ⟨G, 6, none⟩ V2) V1 V2 V3 (data ++ [(k : Int)]) (List.replicate (data ++ [(k : Int)]).length 3) (seen ++ [s]) ∧ Blk ((W.setCell ⟨G, 5, none⟩ V1).setCell ⟨G, 6, none⟩ V2) G 33 #[.int .i64 z1, .int .i64 z2, .int .i64 z3, .int .i64 z4, .int .i64 z5, V1, V2, .int .u8 44] ∧ Blk ((W.setCell ⟨G, 5, none⟩ V1).setCell ⟨G, 6, none⟩ V2) P 33 #[.int .i64 0, .int .i64 0, .int .i64 0, .int .i64 0, .int .i64 0, .slice none 0 0, .slice none 0 0, .int .u8 0]) := by
                  refine Lib.hid fun W V1 V2 V3 g1 g2 g3 => ?_
                  have hgw : w5.heap.size ≤ G := by have := HS5.out; omega
                  have hgp : P ≠ G := by have := HPG.out; omega
                  have e : List.replicate (data ++ [(k : Int)]).length (3 : Int) = List.replicate data.length 3 ++ [3] := by rw [List.length_append, List.length_singleton, List.replicate_succ']
                  rw [e]
                  refine ⟨(g1.set_ hgw HGB.out).set_ hgw HGB.out, ?_, (g3.far (p := ⟨G, 5, none⟩) hgp _).far (p := ⟨G, 6, none⟩) hgp _⟩
                  · have h1 := g2.set_ 5 V1
                    exact Blk.set_ (show Blk _ G 33 #[.int .i64 z1, .int .i64 z2, .int .i64 z3, .int .i64 z4, .int .i64 z5, V1, .slice Ak data.length ck, .int .u8 44] from h1) 6 V2
                refine wp_region_held_tail 10 (fun W => Blk W G 33 #[.int .i64 z1, .int .i64 z2, .int .i64 z3, .int .i64 z4, .int .i64 z5, .slice Ad data.length cd, .slice Ak data.length ck, .int .u8 44]) (by kernel_rfl) (by kernel_rfl) HG10.out.drew (fun hHeld => ?_)
                simp only [List.take_succ_cons, List.take_zero]
                have hP0 := HR10.out.now (Below.refl _ _).drew
                have hO0 := OffG.low hP0 HG10.out.drew HGB.out
                have hQ0 := OffG.low hP0 HP10.out.drew (Nat.lt_trans HPG.out HGB.out)
                clear HR10 HG10 HP10
                generalize w10.drew = w20 at *
                refine takeL (v := ?v1) 0 rfl (by kernel_rfl) (by kernel_rfl) (by kernel_rfl) (fun _ _ _ h => h) rfl ?hy1 hHeld ?rest1
                case hy1 => (intro W hW; go_simp <;> rfl)
                simp only [Act.put, List.setIfInBounds_toArray, List.set_cons_zero, List.set_cons_succ]
                refine takeL (v := ?v2) 1 rfl (by kernel_rfl) (by kernel_rfl) (by kernel_rfl) (fun _ _ _ h => h) rfl ?hy2 hHeld ?rest2
                case hy2 => (intro W hW; obtain ⟨p0, p1, p2, p3, p4, p5, p6, p7⟩ := hW.c8m; go_simp <;> rfl)
                simp only [Act.put, List.setIfInBounds_toArray, List.set_cons_zero, List.set_cons_succ]
                refine takeL (v := ?v3) 2 rfl (by kernel_rfl) (by kernel_rfl) (by kernel_rfl) (fun _ _ _ h => h) rfl ?hy3 hHeld ?rest3
                case hy3 => (intro W hW; go_simp <;> rfl)
                simp only [Act.put, List.setIfInBounds_toArray, List.set_cons_zero, List.set_cons_succ]
                refine takeL (v := ?v4) 5 rfl (by kernel_rfl) (by kernel_rfl) (by kernel_rfl) (fun _ _ _ h => h) rfl ?hy4 hHeld ?rest4
                case hy4 => (intro W hW; go_simp <;> rfl)
                simp only [Act.put, List.setIfInBounds_toArray, List.set_cons_zero, List.set_cons_succ]
                refine takeL (v := ?v5) 6 rfl (by kernel_rfl) (by kernel_rfl) (by kernel_rfl) (fun _ _ _ h => h) rfl ?hy5 hHeld ?rest5
                case hy5 => (intro W hW; obtain ⟨p0, p1, p2, p3, p4, p5, p6, p7⟩ := hW.c8m; go_simp <;> rfl)
                simp only [Act.put, List.setIfInBounds_toArray, List.set_cons_zero, List.set_cons_succ]
                refine twoL 3 7 rfl rfl rfl rfl (by kernel_rfl) (fun K hK => ?_) (fun K hK => ?_)
                · go_simp
                  have hbb6 := bone w20 (.cells #[.int .i64 (k : Int)] 3)
                  have hX6 := OffG.new hP0 3 #[.int .i64 (k : Int)]
                  have hP6 := hP0.now hbb6
                  have hO6 := hO0.now hbb6
                  have hQ6 := hQ0.now hbb6
                  refine hK.out _ _ hO6.blk (fun hHeld => ?_)
                  clear hK K
                  generalize hw6 : w20.alloc (.cells #[.int .i64 (k : Int)] 3) = w26 at *
                  clear hw6 hbb6 hP0 hO0 hQ0
                  refine twoL 4 7 rfl rfl rfl rfl (by kernel_rfl) (fun K hK => ?_) (fun K hK => ?_)
                  · refine wp_pickD (.tmp 74) (.tmp 76) (k : Int) rfl hP6 hX6 rfl rfl HN9.out.2 ?_
                    intro r7 w27 hP7 hT7
                    have hO7 := hT7 _ _ _ hO6
                    have hQ7 := hT7 _ _ _ hQ6
                    obtain ⟨A7, n7, c7, hr7⟩ := OwnZ.open' hP7.dat
                    subst hr7
                    refine hK.out _ _ hO7.blk (fun hHeld => ?_)
                    clear hK K hT7 hP6 hO6 hQ6
                    refine takeL (v := ?v8) 9 rfl (by kernel_rfl) (by kernel_rfl) (by kernel_rfl) (fun _ _ _ h => h) rfl ?hy8 hHeld ?rest8
                    case hy8 => (intro W hW; go_simp <;> rfl)
                    simp only [Act.put, List.setIfInBounds_toArray, List.set_cons_zero, List.set_cons_succ]
                    refine onlyL 7 rfl rfl (by kernel_rfl) (fun K hK => ?_)
                    go_simp
                    have hbb9 := bone w27 (.cells #[.int .i64 3] 3)
                    have hV9 := OffG.new hP7 3 #[.int .i64 3]
                    have hP9 := hP7.now hbb9
                    have hO9 := hO7.now hbb9
                    have hQ9 := hQ7.now hbb9
                    refine hK.out _ _ hO9.blk (fun hHeld => ?_)
                    clear hK K
                    generalize hw9 : w27.alloc (.cells #[.int .i64 3] 3) = w29 at *
                    clear hw9 hbb9 hP7 hO7 hQ7
                    refine onlyL 8 rfl rfl (by kernel_rfl) (fun K hK => ?_)
                    refine wp_pickK (.tmp 79) (.tmp 80) 3 rfl hP9 hV9 rfl rfl (by rw [List.length_replicate]; exact HN9.out.2) ?_
                    intro r10 w30 hP10 hT10
                    have hO10 := hT10 _ _ _ hO9
                    have hQ10 := hT10 _ _ _ hQ9
                    obtain ⟨A10, n10, c10, hr10⟩ := OwnZ.open' hP10.kin
                    subst hr10
                    refine hK.out _ _ hO10.blk (fun hHeld => ?_)
                    clear hK K hT10 hP9 hO9 hQ9
                    refine doneL (by kernel_rfl) ?_
                    simp only [List.drop_succ_cons, List.drop_zero]
                    obtain ⟨c0, c1, c2, c3, c4, c5, c6, c7⟩ := hO10.blk.c8m
                    have f5 := hO10.blk.frozen 5
                    have f6 := hO10.blk.frozen 6
                    go_wp2_with fail
                    go_roundw
                    case rel =>
                      obtain ⟨t1, t2, t3⟩ := HREL.out _ _ _ _ hP10 hO10.blk hQ10.blk
                      exact ⟨k + 1, seen ++ [s], data ++ [(k : Int)], _, _, by go_num, by omega, HPD, Lib.hid t1, Lib.hid t2, Lib.hid t3, HLD⟩
                    case measure => simp [intOf]; omega
                  · go_simp
                    have hbb11 := bone w26 (.cells #[.int .i64 3] 3)
                    have hV11 := OffG.new hP6 3 #[.int .i64 3]
                    have hP11 := hP6.now hbb11
                    have hO11 := hO6.now hbb11
                    have hQ11 := hQ6.now hbb11
                    have hX11 := hX6.now hbb11
                    refine hK.out _ _ hO11.blk (fun hHeld => ?_)
                    clear hK K
                    generalize hw11 : w26.alloc (.cells #[.int .i64 3] 3) = w31 at *
                    clear hw11 hbb11 hP6 hO6 hQ6
                    refine onlyL 4 rfl rfl (by kernel_rfl) (fun K hK => ?_)
                    refine wp_pickD (.tmp 74) (.tmp 76) (k : Int) rfl hP11 hX11 rfl rfl HN9.out.2 ?_
                    intro r12 w32 hP12 hT12
                    have hO12 := hT12 _ _ _ hO11
                    have hQ12 := hT12 _ _ _ hQ11
                    obtain ⟨A12, n12, c12, hr12⟩ := OwnZ.open' hP12.dat
                    subst hr12
                    have hV12 := hT12 _ _ _ hV11
                    refine hK.out _ _ hO12.blk (fun hHeld => ?_)
                    clear hK K hT12 hP11 hO11 hQ11
                    refine takeL (v := ?v13) 9 rfl (by kernel_rfl) (by kernel_rfl) (by kernel_rfl) (fun _ _ _ h => h) rfl ?hy13 hHeld ?rest13
                    case hy13 => (intro W hW; go_simp <;> rfl)
                    simp only [Act.put, List.setIfInBounds_toArray, List.set_cons_zero, List.set_cons_succ]
                    refine onlyL 8 rfl rfl (by kernel_rfl) (fun K hK => ?_)
                    refine wp_pickK (.tmp 79) (.tmp 80) 3 rfl hP12 hV12 rfl rfl (by rw [List.length_replicate]; exact HN9.out.2) ?_
                    intro r14 w34 hP14 hT14
                    have hO14 := hT14 _ _ _ hO12
                    have hQ14 := hT14 _ _ _ hQ12
                    obtain ⟨A14, n14, c14, hr14⟩ := OwnZ.open' hP14.kin
                    subst hr14
                    refine hK.out _ _ hO14.blk (fun hHeld => ?_)
                    clear hK K hT14 hP12 hO12 hQ12
                    refine doneL (by kernel_rfl) ?_
                    simp only [List.drop_succ_cons, List.drop_zero]
                    obtain ⟨c0, c1, c2, c3, c4, c5, c6, c7⟩ := hO14.blk.c8m
                    have f5 := hO14.blk.frozen 5
                    have f6 := hO14.blk.frozen 6
                    go_wp2_with fail
                    go_roundw
                    case rel =>
                      obtain ⟨t1, t2, t3⟩ := HREL.out _ _ _ _ hP14 hO14.blk hQ14.blk
                      exact ⟨k + 1, seen ++ [s], data ++ [(k : Int)], _, _, by go_num, by omega, HPD, Lib.hid t1, Lib.hid t2, Lib.hid t3, HLD⟩
                    case measure => simp [intOf]; omega
                · go_simp
                  have hbb15 := bone w20 (.cells #[.int .i64 3] 3)
                  have hV15 := OffG.new hP0 3 #[.int .i64 3]
                  have hP15 := hP0.now hbb15
                  have hO15 := hO0.now hbb15
                  have hQ15 := hQ0.now hbb15
                  refine hK.out _ _ hO15.blk (fun hHeld => ?_)
                  clear hK K
                  generalize hw15 : w20.alloc (.cells #[.int .i64 3] 3) = w35 at *
                  clear hw15 hbb15 hP0 hO0 hQ0
                  refine onlyL 3 rfl rfl (by kernel_rfl) (fun K hK => ?_)
                  go_simp
                  have hbb16 := bone w35 (.cells #[.int .i64 (k : Int)] 3)
                  have hX16 := OffG.new hP15 3 #[.int .i64 (k : Int)]
                  have hP16 := hP15.now hbb16
                  have hO16 := hO15.now hbb16
                  have hQ16 := hQ15.now hbb16
                  have hV16 := hV15.now hbb16
                  refine hK.out _ _ hO16.blk (fun hHeld => ?_)
                  clear hK K
                  generalize hw16 : w35.alloc (.cells #[.int .i64 (k : Int)] 3) = w36 at *
                  clear hw16 hbb16 hP15 hO15 hQ15
                  refine onlyL 4 rfl rfl (by kernel_rfl) (fun K hK => ?_)
                  refine wp_pickD (.tmp 74) (.tmp 76) (k : Int) rfl hP16 hX16 rfl rfl HN9.out.2 ?_
                  intro r17 w37 hP17 hT17
                  have hO17 := hT17 _ _ _ hO16
                  have hQ17 := hT17 _ _ _ hQ16
                  obtain ⟨A17, n17, c17, hr17⟩ := OwnZ.open' hP17.dat
                  subst hr17
                  have hV17 := hT17 _ _ _ hV16
                  refine hK.out _ _ hO17.blk (fun hHeld => ?_)
                  clear hK K hT17 hP16 hO16 hQ16
                  refine takeL (v := ?v18) 9 rfl (by kernel_rfl) (by kernel_rfl) (by kernel_rfl) (fun _ _ _ h => h) rfl ?hy18 hHeld ?rest18
                  case hy18 => (intro W hW; go_simp <;> rfl)
                  simp only [Act.put, List.setIfInBounds_toArray, List.set_cons_zero, List.set_cons_succ]
                  refine onlyL 8 rfl rfl (by kernel_rfl) (fun K hK => ?_)
                  refine wp_pickK (.tmp 79) (.tmp 80) 3 rfl hP17 hV17 rfl rfl (by rw [List.length_replicate]; exact HN9.out.2) ?_
                  intro r19 w39 hP19 hT19
                  have hO19 := hT19 _ _ _ hO17
                  have hQ19 := hT19 _ _ _ hQ17
                  obtain ⟨A19, n19, c19, hr19⟩ := OwnZ.open' hP19.kin
                  subst hr19
                  refine hK.out _ _ hO19.blk (fun hHeld => ?_)
                  clear hK K hT19 hP17 hO17 hQ17
                  refine doneL (by kernel_rfl) ?_
                  simp only [List.drop_succ_cons, List.drop_zero]
                  obtain ⟨c0, c1, c2, c3, c4, c5, c6, c7⟩ := hO19.blk.c8m
                  have f5 := hO19.blk.frozen 5
                  have f6 := hO19.blk.frozen 6
                  go_wp2_with fail
                  go_roundw
                  case rel =>
                    obtain ⟨t1, t2, t3⟩ := HREL.out _ _ _ _ hP19 hO19.blk hQ19.blk
                    exact ⟨k + 1, seen ++ [s], data ++ [(k : Int)], _, _, by go_num, by omega, HPD, Lib.hid t1, Lib.hid t2, Lib.hid t3, HLD⟩
                  case measure => simp [intOf]; omega
              · go_wp2_with (first | (go_at_call 75; (with_reducible refine HFD.out.mono ?_); rintro e w7 ⟨vf, rfl, hsf, hb7⟩; have HB7 := Lib.hid hb7; have HVF := Lib.hid hsf; clear hsf hb7) | (go_at_call 61; (with_reducible refine (HCZ.out _ _ HVF.out).mono ?_); rintro e w8 ⟨rfl, rfl⟩) | (go_at_call 76; (with_reducible refine (HNM.out _).mono ?_); rintro e w8 ⟨rfl, rfl⟩) | (go_at_call 77; (with_reducible refine (HCS.out _ HB7.out).mono ?_); rintro e w8 ⟨rfl, rfl⟩))
                go_roundw
                case rel =>
                  have HP1 := Lib.hid (HP1.out (by simp))
                  obtain ⟨s1, s2, s3⟩ := HSKIP.out HP1.out _ HB7.out
                  exact ⟨k + 1, seen, data, _, _, by go_num, by omega, HP1, Lib.hid s1, Lib.hid s2, Lib.hid s3, HLN⟩
                case measure => simp [intOf]; omega
          · go_wp2_with (first | (go_at_call 75; (with_reducible refine HFD.out.mono ?_); rintro e w7 ⟨vf, rfl, hsf, hb7⟩; have HB7 := Lib.hid hb7; have HVF := Lib.hid hsf; clear hsf hb7) | (go_at_call 61; (with_reducible refine (HCZ.out _ _ HVF.out).mono ?_); rintro e w8 ⟨rfl, rfl⟩) | (go_at_call 76; (with_reducible refine (HNM.out _).mono ?_); rintro e w8 ⟨rfl, rfl⟩) | (go_at_call 77; (with_reducible refine (HCS.out _ HB7.out).mono ?_); rintro e w8 ⟨rfl, rfl⟩))
            go_roundw
            case rel =>
              have HP1 := Lib.hid (HP1.out (by simp))
              obtain ⟨s1, s2, s3⟩ := HSKIP.out HP1.out _ HB7.out
              exact ⟨k + 1, seen, data, _, _, by go_num, by omega, HP1, Lib.hid s1, Lib.hid s2, Lib.hid s3, HLN⟩
            case measure => simp [intOf]; omega
      · have hkn : cells.length ≤ k := by omega
        have HDD : Hid (data = D) := by show _ = _; rw [← HPK.out, pick_done hkn]
        obtain ⟨p0, p1, p2, p3, p4, p5, p6, p7⟩ := HPk.out.c8m
        have f0 := HPk.out.frozen 0
        have f1 := HPk.out.frozen 1
        have f2 := HPk.out.frozen 2
        have f3 := HPk.out.frozen 3
        have f4 := HPk.out.frozen 4
        have f5 := HPk.out.frozen 5
        have f6 := HPk.out.frozen 6
        have f7 := HPk.out.frozen 7
        have HR := Lib.hid (HPk.out.set8m (.int .i64 z1) (.int .i64 z2) (.int .i64 z3) (.int .i64 z4) (.int .i64 z5) (.slice Ad data.length cd) (.slice Ak data.length ck) (.int .u8 44))
        have HBw := Lib.hid (HB5.out.trans (HRW.out.bel.mono HB5.out.size))
        have HBR := Lib.hid (bset8m (g := P) HBw.out (by rw [HPW.out]; exact Nat.le_refl _) (.int .i64 z1) (.int .i64 z2) (.int .i64 z3) (.int .i64 z4) (.int .i64 z5) (.slice Ad data.length cd) (.slice Ak data.length ck) (.int .u8 44))
        have HPB : Hid (P < B) := Lib.hid (Nat.lt_trans HPG.out HGB.out)
        have HOD := Lib.hid (own_far8 HRW.out.dat HPB.out (.int .i64 z1) (.int .i64 z2) (.int .i64 z3) (.int .i64 z4) (.int .i64 z5) (.slice Ad data.length cd) (.slice Ak data.length ck) (.int .u8 44))
        have HOK := Lib.hid (own_far8 HRW.out.kin HPB.out (.int .i64 z1) (.int .i64 z2) (.int .i64 z3) (.int .i64 z4) (.int .i64 z5) (.slice Ad data.length cd) (.slice Ak data.length ck) (.int .u8 44))
        have hkl : ¬ (k : Int) < (cells.length : Int) := by omega
        clear hkn hlt
        go_wp2_with fail
        obtain ⟨W8, hW8⟩ : ∃ W8, ((((((((wr.setCell ⟨P, 0, none⟩ (.int .i64 z1)).setCell ⟨P, 1, none⟩ (.int .i64 z2)).setCell ⟨P, 2, none⟩ (.int .i64 z3)).setCell ⟨P, 3, none⟩ (.int .i64 z4)).setCell ⟨P, 4, none⟩ (.int .i64 z5)).setCell ⟨P, 5, none⟩ (.slice Ad data.length cd)).setCell ⟨P, 6, none⟩ (.slice Ak data.length ck)).setCell ⟨P, 7, none⟩ (.int .u8 44)) = W8 := ⟨_, rfl⟩
        rw [hW8] at HR HBR HOD HOK ⊢
        clear hW8
        obtain ⟨q0, q1, q2, q3, q4, q5, q6, q7⟩ := HR.out.c8m
        refine bodyPost_ret (v := .tuple #[.agg #[.int .i64 z1, .int .i64 z2, .int .i64 z3, .int .i64 z4, .int .i64 z5, .slice Ad data.length cd, .slice Ak data.length ck, .int .u8 44], .int .i64 0]) (by simp [results, Tryz.results30, go_sem, q0, q1, q2, q3, q4, q5, q6, q7]) rfl ?_
        show RetMp _ _ _ _
        rw [HE.out, ← HDD.out]
        refine ⟨_, rfl, ⟨_, _, rfl, ⟨HFM.out.1, HFM.out.2.1, HFM.out.2.2.1, HFM.out.2.2.2.1, HFM.out.2.2.2.2⟩, SlI.of_own HOD.out (fun z hz => by have := HLN.out.2.2.1 z hz; unfold Fit; omega), ?_⟩, HBR.out⟩
        have h := SlI.of_own HOK.out (fun z hz => by rw [List.eq_of_mem_replicate hz]; unfold Fit; omega)
        exact h
theorem guess_any (u : Value) (cells : List Bt) (w : World) (hu : SlP (Lt w.heap.size) w u cells) (hs : ∀ l ∈ cells, l.length ≤ 1000000) :
    Calls Tryz.prog 30 #[u] w (RetMp (guessE wds0 cells) w) := by
  by_cases h : 40 < cells.length
  · exact guess_long u cells w hu hs h
  · exact guess_short u cells w hu hs h
end Go.Proofs.YtoalecalahkblaaGreatDoor

namespace Go.Proofs.YtoalecalahkblaaGreatDoor
open Go.RowKit
def OwnF {α : Type} (f : α → Value) (w : World) (base t g cap : Nat) (xs : List α) : Prop :=
  w.ownsRow base t 1 (.slice (some ⟨g, 0, none⟩) xs.length cap) xs.length (xs.map f) ∧ g < w.heap.size ∧ base ≤ g
section
variable {α : Type} {f : α → Value} {w w' : World} {base t g cap : Nat} {xs : List α}
theorem OwnF.cell (h : OwnF f w base t g cap xs) {k : Nat} {x : α} (hx : xs[k]? = some x) : w.cell? ⟨g, k, none⟩ = some (f x) := by
  have hk : k < xs.length := by
    rcases Nat.lt_or_ge k xs.length with h | h
    · exact h
    · rw [List.getElem?_eq_none h] at hx; cases hx
  rw [h.1.cellAt k (by omega)]; simp [hx]
theorem OwnF.frozen (h : OwnF f w base t g cap xs) (k : Nat) : w.frozen? ⟨g, k, none⟩ = false := h.1.frozenAt k
theorem OwnF.set_ (h : OwnF f w base t g cap xs) (k : Nat) (x : α) : OwnF f (w.setCell ⟨g, k, none⟩ (f x)) base t g cap (xs.set k x) := by
  refine ⟨?_, by simpa using h.2.1, h.2.2⟩
  have := (h.1.stored k (f x)).1
  rw [List.length_set, List.map_set]
  exact this
theorem OwnF.now (h : OwnF f w base t g cap xs) (hb : Below w.heap.size w w') : OwnF f w' base t g cap xs := ⟨own_now h.1 hb, Nat.lt_of_lt_of_le h.2.1 hb.size, h.2.2⟩
theorem OwnF.drew (h : OwnF f w base t g cap xs) : OwnF f w.drew base t g cap xs := h
theorem OwnF.drewN (h : OwnF f w base t g cap xs) (n : Nat) : OwnF f (w.drewN n) base t g cap xs := h
theorem OwnF.far (h : OwnF f w base t g cap xs) {p : Addr} (hp : p.block ≠ g) (u : Value) : OwnF f (w.setCell p u) base t g cap xs :=
  ⟨ownsRow_setCell_other h.1 (fun e => by injection e with e; exact hp e.symm) u, by simpa using h.2.1, h.2.2⟩
theorem OwnF.lt (h : OwnF f w base t g cap xs) : g < w.heap.size := h.2.1
theorem OwnF.from_ (h : OwnF f w base t g cap xs) : base ≤ g := h.2.2
theorem OwnF.mono {base' : Nat} (h : OwnF f w base t g cap xs) (hb : base' ≤ base) : OwnF f w base' t g cap xs := by
  refine ⟨⟨h.1.1, ?_⟩, h.2.1, Nat.le_trans hb h.2.2⟩
  rcases h.1.2 with h' | ⟨g', c', cur, e, h1, h2⟩
  · exact .inl h'
  · exact .inr ⟨g', c', cur, e, Nat.le_trans hb h1, h2⟩
theorem OwnF.made (w : World) (t n : Nat) (z : α) (hn : n ≤ maxLen) : OwnF f (w.alloc (.cells (madeCells #[f z] n) t)) w.heap.size t w.heap.size n (List.replicate n z) := by
  have hs : (madeCells #[f z] n).size = n * 1 := by simp [madeCells]
  have := World.ownsRow_lit (base := w.heap.size) (e := t) (size := 1) w (madeCells #[f z] n) n (Nat.le_refl _) hn hs
  refine ⟨?_, by simp, Nat.le_refl _⟩
  rw [List.length_replicate, List.map_replicate]
  rw [toList_madeCells_one] at this
  exact this
end
theorem run_make_n {P : Program} (t e : TypeId) (z : Value) (bytes : Nat) (ht : P.underlying t = some (.slice e)) (hi : (P.info? e).map (fun i => (i.zero, i.size, i.bytes)) = some (some z, 1, bytes)) (n : Nat) (hn : n ≤ 10000000) (hb : bytes ≤ 4096) (hzc : z.cells = #[z]) (w : World) :
    (Instr.makeSlice t (.int .i64 (n : Int)) (.int .i64 (n : Int))).run P w = .ok (.slice (some ⟨w.heap.size, 0, none⟩) n n) (w.alloc (.cells (madeCells #[z] n) e)) := by
  obtain ⟨i, hi, hz, hs, hby⟩ := info_parts hi
  have hb' : (i.bytes : Int) * (n : Int) ≤ 281474976710656 := by
    have h1 : i.bytes * n ≤ 4096 * 10000000 := Nat.mul_le_mul (by omega) hn
    have h : ((i.bytes * n : Nat) : Int) ≤ 281474976710656 := by omega
    rwa [Int.natCast_mul] at h
  have hr := run_make (P := P) w t e i z ht hi hz .i64 .i64 n n (by omega) (by omega) hb' (by omega)
  simp only [Int.toNat_natCast] at hr
  rw [hs, hzc, Nat.mul_one] at hr
  exact hr
end Go.Proofs.YtoalecalahkblaaGreatDoor

set_option linter.all false
namespace Go.Proofs.YtoalecalahkblaaGreatDoor
open Go.RowKit
def allW : List (List Bt) := [wCas, wAct, wRes, wLife, wTime]
def fndL (cells : List Bt) (i : Nat) : List Int := (allW.take i).map (fun ws => findB ws cells) ++ List.replicate (5 - i) (-1)
def takenL (F : List Int) (n : Nat) : List Bool := (List.range n).map fun (j : Nat) => decide ((j : Int) ∈ F)
theorem fndL_len (cells : List Bt) {i : Nat} (h : i ≤ 5) : (fndL cells i).length = 5 := by
  unfold fndL
  rw [List.length_append, List.length_map, List.length_take, List.length_replicate]
  show min i 5 + (5 - i) = 5
  omega
theorem takenL_len (F : List Int) (n : Nat) : (takenL F n).length = n := by unfold takenL; simp
theorem takenL_at (F : List Int) {n j : Nat} (h : j < n) : (takenL F n)[j]? = some (decide ((j : Int) ∈ F)) := by unfold takenL; simp [h]
theorem takenL_set {F : List Int} {n i j : Nat} (hF : F[i]? = some (-1)) (hj : j < n) : (takenL F n).set j true = takenL (F.set i (j : Int)) n := by
  obtain ⟨hi, hFi⟩ := List.getElem?_eq_some_iff.1 hF
  refine List.ext_getElem? fun q => ?_
  rcases Nat.lt_or_ge q n with hq | hq
  · have key : ((q : Int) ∈ F.set i (j : Int)) ↔ (q = j ∨ (q : Int) ∈ F) := by
      constructor
      · intro h
        rcases List.mem_or_eq_of_mem_set h with h | h
        · exact .inr h
        · exact .inl (by omega)
      · rintro (rfl | h)
        · exact List.mem_iff_getElem.2 ⟨i, by simpa using hi, by simp⟩
        · obtain ⟨r, hr, e⟩ := List.mem_iff_getElem.1 h
          have hne : i ≠ r := fun e' => by subst e'; rw [hFi] at e; omega
          exact List.mem_iff_getElem.2 ⟨r, by simpa using hr, by rw [List.getElem_set_ne hne]; exact e⟩
    rw [takenL_at _ hq]
    by_cases e : j = q
    · subst e
      rw [List.getElem?_set_self (by rw [takenL_len]; exact hq)]
      rw [decide_eq_true (key.2 (.inl rfl))]
    · rw [List.getElem?_set_ne e, takenL_at _ hq]
      congr 1
      exact decide_eq_decide.2 ⟨fun h => key.2 (.inr h), fun h => (key.1 h).resolve_left (fun h' => e h'.symm)⟩
  · rw [List.getElem?_eq_none (by rw [List.length_set, takenL_len]; exact hq), List.getElem?_eq_none (by rw [takenL_len]; exact hq)]
theorem findB_nil (ws : List Bt) : findB ws [] = -1 := rfl
theorem findB_take {ws cells : List Bt} {j : Nat} {s : Bt} (h : cells[j]? = some s) :
    findB ws (cells.take (j + 1)) = if 0 ≤ findB ws (cells.take j) then findB ws (cells.take j) else if smallB s ∈ ws then (j : Int) else -1 := by
  obtain ⟨hj, rfl⟩ := List.getElem?_eq_some_iff.1 h
  have e : cells.take (j + 1) = cells.take j ++ [cells[j]] := by rw [List.take_add_one, List.getElem?_eq_getElem hj]; rfl
  have hl : (cells.take j).length = j := by rw [List.length_take]; omega
  unfold findB
  rw [e, List.findIdx?_append]
  cases hc : (cells.take j).findIdx? (fun s => decide (smallB s ∈ ws)) with
  | some i =>
    simp only [Option.some_or]
    rw [if_pos (by omega)]
  | none =>
    simp only [Option.none_or]
    rw [if_neg (by omega), hl]
    by_cases hm : smallB cells[j] ∈ ws
    · rw [if_pos hm]
      have : [cells[j]].findIdx? (fun s => decide (smallB s ∈ ws)) = some 0 := by simp [List.findIdx?_cons, hm]
      rw [this]; simp
    · rw [if_neg hm]
      have : [cells[j]].findIdx? (fun s => decide (smallB s ∈ ws)) = none := by simp [List.findIdx?_cons, hm]
      rw [this]; simp
theorem fndL_at (cells : List Bt) {i : Nat} (h : i < 5) : (fndL cells i)[i]? = some (-1) := by
  unfold fndL
  have hl : ((allW.take i).map (fun ws => findB ws cells)).length = i := by
    rw [List.length_map, List.length_take]
    show min i 5 = i
    omega
  rw [List.getElem?_append_right (by omega), hl, Nat.sub_self, List.getElem?_replicate, if_pos (by omega)]
theorem fndL_step {cells ws : List Bt} {i : Nat} (h : allW[i]? = some ws) : (fndL cells i).set i (findB ws cells) = fndL cells (i + 1) := by
  have h5 : i < 5 := by
    rcases Nat.lt_or_ge i 5 with h' | h'
    · exact h'
    · rw [List.getElem?_eq_none (by show 5 ≤ i; exact h')] at h; cases h
  unfold fndL
  have hl : ((allW.take i).map (fun ws => findB ws cells)).length = i := by
    rw [List.length_map, List.length_take]
    show min i 5 = i
    omega
  rw [List.set_append_right _ _ (by omega), hl, Nat.sub_self]
  have e1 : List.replicate (5 - i) (-1 : Int) = (-1) :: List.replicate (5 - (i + 1)) (-1) := by
    rw [show 5 - i = (5 - (i + 1)) + 1 by omega, List.replicate_succ]
  have e2 : allW.take (i + 1) = allW.take i ++ [ws] := by rw [List.take_add_one, h]; rfl
  rw [e1, List.set_cons_zero, e2, List.map_append]
  simp
theorem fndL_zero (cells : List Bt) : fndL cells 0 = [-1, -1, -1, -1, -1] := rfl
theorem fndL_five (cells : List Bt) : fndL cells 5 = [findB wCas cells, findB wAct cells, findB wRes cells, findB wLife cells, findB wTime cells] := rfl
theorem takenL_none (n : Nat) : takenL [-1, -1, -1, -1, -1] n = List.replicate n false := by
  refine List.ext_getElem? fun q => ?_
  rcases Nat.lt_or_ge q n with hq | hq
  · rw [takenL_at _ hq, List.getElem?_replicate, if_pos hq, decide_eq_false]
    simp only [List.mem_cons, List.not_mem_nil, or_false]
    omega
  · rw [List.getElem?_eq_none (by rw [takenL_len]; exact hq), List.getElem?_eq_none (by rw [List.length_replicate]; exact hq)]
structure RefS (w4 W : World) (gp gt cap : Nat) (F : List Int) (L : List Bool) : Prop where
  pl : Blk W gp 3 (F.map (Value.int .i64)).toArray
  tk : OwnF Value.bool W (gp + 1) 4 gt cap L
  bel : Below gp w4 W
section
variable {w4 W W' : World} {gp gt cap : Nat} {F : List Int} {L : List Bool}
theorem RefS.now (h : RefS w4 W gp gt cap F L) (hb : Below W.heap.size W W') : RefS w4 W' gp gt cap F L :=
  ⟨h.pl.now hb, h.tk.now hb, h.bel.trans (hb.mono (Nat.le_of_lt h.pl.lt))⟩
theorem RefS.put (h : RefS w4 W gp gt cap F L) (i : Nat) (z : Int) : RefS w4 (W.setCell ⟨gp, i, none⟩ (.int .i64 z)) gp gt cap (F.set i z) L := by
  refine ⟨?_, h.tk.far (p := ⟨gp, i, none⟩) (fun e => by have := h.tk.from_; have e : gp = gt := e; omega) _, chg_set h.bel (Nat.le_refl _)⟩
  have := h.pl.set_ i (.int .i64 z)
  rw [List.map_set]
  rw [List.setIfInBounds_toArray] at this
  exact this
theorem RefS.take_ (h : RefS w4 W gp gt cap F L) (j : Nat) (b : Bool) : RefS w4 (W.setCell ⟨gt, j, none⟩ (.bool b)) gp gt cap F (L.set j b) :=
  ⟨h.pl.far (p := ⟨gt, j, none⟩) (fun e => by have := h.tk.from_; have e : gp = gt := e; omega) _, h.tk.set_ j b, chg_set h.bel (by have := h.tk.from_; omega)⟩
end
end Go.Proofs.YtoalecalahkblaaGreatDoor

set_option linter.all false
namespace Go.Proofs.YtoalecalahkblaaGreatDoor
open Go.RowKit
set_option maxHeartbeats 1000000 in
theorem words_laid (w0 : World) : SlSS (Lt ((((((w0.alloc (.cells #[.string ⟨#[99, 97, 115, 101]⟩, .string ⟨#[99, 97, 115, 101, 95, 105, 100]⟩, .string ⟨#[99, 97, 115, 101, 105, 100]⟩] 9)).alloc (.cells #[.string ⟨#[97, 99, 116, 105, 118, 105, 116, 121]⟩, .string ⟨#[97, 99, 116]⟩, .string ⟨#[101, 118, 101, 110, 116]⟩] 9)).alloc (.cells #[.string ⟨#[114, 101, 115, 111, 117, 114, 99, 101]⟩, .string ⟨#[114, 101, 115]⟩, .string ⟨#[117, 115, 101, 114]⟩] 9)).alloc (.cells #[.string ⟨#[108, 105, 102, 101]⟩, .string ⟨#[108, 105, 102, 101, 99, 121, 99, 108, 101]⟩] 9)).alloc (.cells #[.string ⟨#[116, 105, 109, 101]⟩, .string ⟨#[116, 105, 109, 101, 115, 116, 97, 109, 112]⟩, .string ⟨#[109, 105, 110, 117, 116, 101]⟩] 9)).alloc (.cells #[.slice (some ⟨w0.heap.size, 0, none⟩) 3 3, .slice (some ⟨w0.heap.size + 1, 0, none⟩) 3 3, .slice (some ⟨w0.heap.size + 2, 0, none⟩) 3 3, .slice (some ⟨w0.heap.size + 3, 0, none⟩) 2 2, .slice (some ⟨w0.heap.size + 4, 0, none⟩) 3 3] 51)).heap.size) ((((((w0.alloc (.cells #[.string ⟨#[99, 97, 115, 101]⟩, .string ⟨#[99, 97, 115, 101, 95, 105, 100]⟩, .string ⟨#[99, 97, 115, 101, 105, 100]⟩] 9)).alloc (.cells #[.string ⟨#[97, 99, 116, 105, 118, 105, 116, 121]⟩, .string ⟨#[97, 99, 116]⟩, .string ⟨#[101, 118, 101, 110, 116]⟩] 9)).alloc (.cells #[.string ⟨#[114, 101, 115, 111, 117, 114, 99, 101]⟩, .string ⟨#[114, 101, 115]⟩, .string ⟨#[117, 115, 101, 114]⟩] 9)).alloc (.cells #[.string ⟨#[108, 105, 102, 101]⟩, .string ⟨#[108, 105, 102, 101, 99, 121, 99, 108, 101]⟩] 9)).alloc (.cells #[.string ⟨#[116, 105, 109, 101]⟩, .string ⟨#[116, 105, 109, 101, 115, 116, 97, 109, 112]⟩, .string ⟨#[109, 105, 110, 117, 116, 101]⟩] 9)).alloc (.cells #[.slice (some ⟨w0.heap.size, 0, none⟩) 3 3, .slice (some ⟨w0.heap.size + 1, 0, none⟩) 3 3, .slice (some ⟨w0.heap.size + 2, 0, none⟩) 3 3, .slice (some ⟨w0.heap.size + 3, 0, none⟩) 2 2, .slice (some ⟨w0.heap.size + 4, 0, none⟩) 3 3] 51)) (.slice (some ⟨w0.heap.size + 5, 0, none⟩) 5 5) allW ∧ Below w0.heap.size w0 ((((((w0.alloc (.cells #[.string ⟨#[99, 97, 115, 101]⟩, .string ⟨#[99, 97, 115, 101, 95, 105, 100]⟩, .string ⟨#[99, 97, 115, 101, 105, 100]⟩] 9)).alloc (.cells #[.string ⟨#[97, 99, 116, 105, 118, 105, 116, 121]⟩, .string ⟨#[97, 99, 116]⟩, .string ⟨#[101, 118, 101, 110, 116]⟩] 9)).alloc (.cells #[.string ⟨#[114, 101, 115, 111, 117, 114, 99, 101]⟩, .string ⟨#[114, 101, 115]⟩, .string ⟨#[117, 115, 101, 114]⟩] 9)).alloc (.cells #[.string ⟨#[108, 105, 102, 101]⟩, .string ⟨#[108, 105, 102, 101, 99, 121, 99, 108, 101]⟩] 9)).alloc (.cells #[.string ⟨#[116, 105, 109, 101]⟩, .string ⟨#[116, 105, 109, 101, 115, 116, 97, 109, 112]⟩, .string ⟨#[109, 105, 110, 117, 116, 101]⟩] 9)).alloc (.cells #[.slice (some ⟨w0.heap.size, 0, none⟩) 3 3, .slice (some ⟨w0.heap.size + 1, 0, none⟩) 3 3, .slice (some ⟨w0.heap.size + 2, 0, none⟩) 3 3, .slice (some ⟨w0.heap.size + 3, 0, none⟩) 2 2, .slice (some ⟨w0.heap.size + 4, 0, none⟩) 3 3] 51)) := by
  have b1 := bone w0 (.cells #[.string ⟨#[99, 97, 115, 101]⟩, .string ⟨#[99, 97, 115, 101, 95, 105, 100]⟩, .string ⟨#[99, 97, 115, 101, 105, 100]⟩] 9)
  have s1 : SlP (Lt (w0.alloc (.cells #[.string ⟨#[99, 97, 115, 101]⟩, .string ⟨#[99, 97, 115, 101, 95, 105, 100]⟩, .string ⟨#[99, 97, 115, 101, 105, 100]⟩] 9)).heap.size) (w0.alloc (.cells #[.string ⟨#[99, 97, 115, 101]⟩, .string ⟨#[99, 97, 115, 101, 95, 105, 100]⟩, .string ⟨#[99, 97, 115, 101, 105, 100]⟩] 9)) (.slice (some ⟨w0.heap.size, 0, none⟩) 3 3) wCas := slP_lit w0 9 wCas (by decide) (by decide)
  have z1 : (w0.alloc (.cells #[.string ⟨#[99, 97, 115, 101]⟩, .string ⟨#[99, 97, 115, 101, 95, 105, 100]⟩, .string ⟨#[99, 97, 115, 101, 105, 100]⟩] 9)).heap.size = w0.heap.size + 1 := by simp
  obtain ⟨x1, hx1⟩ : ∃ x, w0.alloc (.cells #[.string ⟨#[99, 97, 115, 101]⟩, .string ⟨#[99, 97, 115, 101, 95, 105, 100]⟩, .string ⟨#[99, 97, 115, 101, 105, 100]⟩] 9) = x := ⟨_, rfl⟩
  rw [hx1] at b1 s1 z1 ⊢
  have b2 := bone x1 (.cells #[.string ⟨#[97, 99, 116, 105, 118, 105, 116, 121]⟩, .string ⟨#[97, 99, 116]⟩, .string ⟨#[101, 118, 101, 110, 116]⟩] 9)
  have s2 : SlP (Lt (x1.alloc (.cells #[.string ⟨#[97, 99, 116, 105, 118, 105, 116, 121]⟩, .string ⟨#[97, 99, 116]⟩, .string ⟨#[101, 118, 101, 110, 116]⟩] 9)).heap.size) (x1.alloc (.cells #[.string ⟨#[97, 99, 116, 105, 118, 105, 116, 121]⟩, .string ⟨#[97, 99, 116]⟩, .string ⟨#[101, 118, 101, 110, 116]⟩] 9)) (.slice (some ⟨x1.heap.size, 0, none⟩) 3 3) wAct := slP_lit x1 9 wAct (by decide) (by decide)
  have z2 : (x1.alloc (.cells #[.string ⟨#[97, 99, 116, 105, 118, 105, 116, 121]⟩, .string ⟨#[97, 99, 116]⟩, .string ⟨#[101, 118, 101, 110, 116]⟩] 9)).heap.size = x1.heap.size + 1 := by simp
  obtain ⟨x2, hx2⟩ : ∃ x, x1.alloc (.cells #[.string ⟨#[97, 99, 116, 105, 118, 105, 116, 121]⟩, .string ⟨#[97, 99, 116]⟩, .string ⟨#[101, 118, 101, 110, 116]⟩] 9) = x := ⟨_, rfl⟩
  rw [hx2] at b2 s2 z2 ⊢
  have s1 := s1.now b2
  have b3 := bone x2 (.cells #[.string ⟨#[114, 101, 115, 111, 117, 114, 99, 101]⟩, .string ⟨#[114, 101, 115]⟩, .string ⟨#[117, 115, 101, 114]⟩] 9)
  have s3 : SlP (Lt (x2.alloc (.cells #[.string ⟨#[114, 101, 115, 111, 117, 114, 99, 101]⟩, .string ⟨#[114, 101, 115]⟩, .string ⟨#[117, 115, 101, 114]⟩] 9)).heap.size) (x2.alloc (.cells #[.string ⟨#[114, 101, 115, 111, 117, 114, 99, 101]⟩, .string ⟨#[114, 101, 115]⟩, .string ⟨#[117, 115, 101, 114]⟩] 9)) (.slice (some ⟨x2.heap.size, 0, none⟩) 3 3) wRes := slP_lit x2 9 wRes (by decide) (by decide)
  have z3 : (x2.alloc (.cells #[.string ⟨#[114, 101, 115, 111, 117, 114, 99, 101]⟩, .string ⟨#[114, 101, 115]⟩, .string ⟨#[117, 115, 101, 114]⟩] 9)).heap.size = x2.heap.size + 1 := by simp
  obtain ⟨x3, hx3⟩ : ∃ x, x2.alloc (.cells #[.string ⟨#[114, 101, 115, 111, 117, 114, 99, 101]⟩, .string ⟨#[114, 101, 115]⟩, .string ⟨#[117, 115, 101, 114]⟩] 9) = x := ⟨_, rfl⟩
  rw [hx3] at b3 s3 z3 ⊢
  have s1 := s1.now b3
  have s2 := s2.now b3
  have b4 := bone x3 (.cells #[.string ⟨#[108, 105, 102, 101]⟩, .string ⟨#[108, 105, 102, 101, 99, 121, 99, 108, 101]⟩] 9)
  have s4 : SlP (Lt (x3.alloc (.cells #[.string ⟨#[108, 105, 102, 101]⟩, .string ⟨#[108, 105, 102, 101, 99, 121, 99, 108, 101]⟩] 9)).heap.size) (x3.alloc (.cells #[.string ⟨#[108, 105, 102, 101]⟩, .string ⟨#[108, 105, 102, 101, 99, 121, 99, 108, 101]⟩] 9)) (.slice (some ⟨x3.heap.size, 0, none⟩) 2 2) wLife := slP_lit x3 9 wLife (by decide) (by decide)
  have z4 : (x3.alloc (.cells #[.string ⟨#[108, 105, 102, 101]⟩, .string ⟨#[108, 105, 102, 101, 99, 121, 99, 108, 101]⟩] 9)).heap.size = x3.heap.size + 1 := by simp
  obtain ⟨x4, hx4⟩ : ∃ x, x3.alloc (.cells #[.string ⟨#[108, 105, 102, 101]⟩, .string ⟨#[108, 105, 102, 101, 99, 121, 99, 108, 101]⟩] 9) = x := ⟨_, rfl⟩
  rw [hx4] at b4 s4 z4 ⊢
  have s1 := s1.now b4
  have s2 := s2.now b4
  have s3 := s3.now b4
  have b5 := bone x4 (.cells #[.string ⟨#[116, 105, 109, 101]⟩, .string ⟨#[116, 105, 109, 101, 115, 116, 97, 109, 112]⟩, .string ⟨#[109, 105, 110, 117, 116, 101]⟩] 9)
  have s5 : SlP (Lt (x4.alloc (.cells #[.string ⟨#[116, 105, 109, 101]⟩, .string ⟨#[116, 105, 109, 101, 115, 116, 97, 109, 112]⟩, .string ⟨#[109, 105, 110, 117, 116, 101]⟩] 9)).heap.size) (x4.alloc (.cells #[.string ⟨#[116, 105, 109, 101]⟩, .string ⟨#[116, 105, 109, 101, 115, 116, 97, 109, 112]⟩, .string ⟨#[109, 105, 110, 117, 116, 101]⟩] 9)) (.slice (some ⟨x4.heap.size, 0, none⟩) 3 3) wTime := slP_lit x4 9 wTime (by decide) (by decide)
  have z5 : (x4.alloc (.cells #[.string ⟨#[116, 105, 109, 101]⟩, .string ⟨#[116, 105, 109, 101, 115, 116, 97, 109, 112]⟩, .string ⟨#[109, 105, 110, 117, 116, 101]⟩] 9)).heap.size = x4.heap.size + 1 := by simp
  obtain ⟨x5, hx5⟩ : ∃ x, x4.alloc (.cells #[.string ⟨#[116, 105, 109, 101]⟩, .string ⟨#[116, 105, 109, 101, 115, 116, 97, 109, 112]⟩, .string ⟨#[109, 105, 110, 117, 116, 101]⟩] 9) = x := ⟨_, rfl⟩
  rw [hx5] at b5 s5 z5 ⊢
  have s1 := s1.now b5
  have s2 := s2.now b5
  have s3 := s3.now b5
  have s4 := s4.now b5
  have e1 : x1.heap.size = w0.heap.size + 1 := z1
  have e2 : x2.heap.size = w0.heap.size + 2 := by omega
  have e3 : x3.heap.size = w0.heap.size + 3 := by omega
  have e4 : x4.heap.size = w0.heap.size + 4 := by omega
  have e5 : x5.heap.size = w0.heap.size + 5 := by omega
  rw [e1] at s2
  rw [e2] at s3
  rw [e3] at s4
  rw [e4] at s5
  have b6 := bone x5 (.cells #[.slice (some ⟨w0.heap.size, 0, none⟩) 3 3, .slice (some ⟨w0.heap.size + 1, 0, none⟩) 3 3, .slice (some ⟨w0.heap.size + 2, 0, none⟩) 3 3, .slice (some ⟨w0.heap.size + 3, 0, none⟩) 2 2, .slice (some ⟨w0.heap.size + 4, 0, none⟩) 3 3] 51)
  have k6 := Blk.new x5 51 #[.slice (some ⟨w0.heap.size, 0, none⟩) 3 3, .slice (some ⟨w0.heap.size + 1, 0, none⟩) 3 3, .slice (some ⟨w0.heap.size + 2, 0, none⟩) 3 3, .slice (some ⟨w0.heap.size + 3, 0, none⟩) 2 2, .slice (some ⟨w0.heap.size + 4, 0, none⟩) 3 3]
  obtain ⟨x6, hx6⟩ : ∃ x, x5.alloc (.cells #[.slice (some ⟨w0.heap.size, 0, none⟩) 3 3, .slice (some ⟨w0.heap.size + 1, 0, none⟩) 3 3, .slice (some ⟨w0.heap.size + 2, 0, none⟩) 3 3, .slice (some ⟨w0.heap.size + 3, 0, none⟩) 2 2, .slice (some ⟨w0.heap.size + 4, 0, none⟩) 3 3] 51) = x := ⟨_, rfl⟩
  rw [hx6] at b6 k6 ⊢
  rw [e5] at k6
  have s1 := s1.now b6
  have s2 := s2.now b6
  have s3 := s3.now b6
  have s4 := s4.now b6
  have s5 := s5.now b6
  refine ⟨Sl.ofBlk (xs := allW) (cs := #[.slice (some ⟨w0.heap.size, 0, none⟩) 3 3, .slice (some ⟨w0.heap.size + 1, 0, none⟩) 3 3, .slice (some ⟨w0.heap.size + 2, 0, none⟩) 3 3, .slice (some ⟨w0.heap.size + 3, 0, none⟩) 2 2, .slice (some ⟨w0.heap.size + 4, 0, none⟩) 3 3].toList) k6 (by decide) (fun i r hr => ?_), ?_⟩
  · match i, hr with
    | 0, hr => injection hr with hr; subst hr; exact ⟨[_], rfl, fun j u hu => by
        match j, hu with
        | 0, hu => injection hu with hu; subst hu; rfl
        | j + 1, hu => simp at hu, _, rfl, s1⟩
    | 1, hr => injection hr with hr; subst hr; exact ⟨[_], rfl, fun j u hu => by
        match j, hu with
        | 0, hu => injection hu with hu; subst hu; rfl
        | j + 1, hu => simp at hu, _, rfl, s2⟩
    | 2, hr => injection hr with hr; subst hr; exact ⟨[_], rfl, fun j u hu => by
        match j, hu with
        | 0, hu => injection hu with hu; subst hu; rfl
        | j + 1, hu => simp at hu, _, rfl, s3⟩
    | 3, hr => injection hr with hr; subst hr; exact ⟨[_], rfl, fun j u hu => by
        match j, hu with
        | 0, hu => injection hu with hu; subst hu; rfl
        | j + 1, hu => simp at hu, _, rfl, s4⟩
    | 4, hr => injection hr with hr; subst hr; exact ⟨[_], rfl, fun j u hu => by
        match j, hu with
        | 0, hu => injection hu with hu; subst hu; rfl
        | j + 1, hu => simp at hu, _, rfl, s5⟩
    | i + 5, hr => simp [allW] at hr
  · exact (((((b1.trans (b2.mono (by omega))).trans (b3.mono (by omega))).trans (b4.mono (by omega))).trans (b5.mono (by omega))).trans (b6.mono (by omega)))
set_option maxHeartbeats 2000000 in
set_option maxRecDepth 100000 in
theorem guessR_long (u : Value) (cells : List Bt) (w : World) (hu : SlP (Lt w.heap.size) w u cells) (hs : ∀ l ∈ cells, l.length ≤ 1000000) (h40 : 40 < cells.length) :
    Calls Tryz.prog 31 #[u] w (RetMp (guessE wds0 cells) w) := by
  have HS := Lib.hid hs
  have HU := Lib.hid hu
  obtain ⟨A, c, rfl, h1, h2, _⟩ := hu.open_
  clear hs hu
  have HP := Blk.new w 33 #[.int .i64 0, .int .i64 0, .int .i64 0, .int .i64 0, .int .i64 0, .slice none 0 0, .slice none 0 0, .int .u8 0]
  have HB := Lib.hid (bone w (.cells #[.int .i64 0, .int .i64 0, .int .i64 0, .int .i64 0, .int .i64 0, .slice none 0 0, .slice none 0 0, .int .u8 0] 33))
  have i1 : (40 : Int) < (cells.length : Int) := by omega
  have HE : Hid (guessE wds0 cells = (Mp.zero, 5)) := by show _ = _; unfold guessE; rw [if_pos h40]
  clear h40
  go_enter Tryz.func31, Tryz.ntmps31
  go_wp2_with fail
  obtain ⟨w0, hw0⟩ : ∃ w0, w.alloc (.cells #[.int .i64 0, .int .i64 0, .int .i64 0, .int .i64 0, .int .i64 0, .slice none 0 0, .slice none 0 0, .int .u8 0] 33) = w0 := ⟨_, rfl⟩
  rw [hw0] at HP HB ⊢
  obtain ⟨q0, q1, q2, q3, q4, q5, q6, q7⟩ := HP.c8m
  refine bodyPost_ret (v := .tuple #[.agg #[.int .i64 0, .int .i64 0, .int .i64 0, .int .i64 0, .int .i64 0, .slice none 0 0, .slice none 0 0, .int .u8 0], .int .i64 5]) (by simp [results, Tryz.results31, go_sem, q0, q1, q2, q3, q4, q5, q6, q7]) rfl ?_
  show RetMp _ _ _ _
  rw [HE.out]
  exact ⟨_, rfl, isMp_zero _, HB.out⟩
set_option maxHeartbeats 4000000 in
set_option maxRecDepth 100000 in
theorem guessR_short (u : Value) (cells : List Bt) (w : World) (hu : SlP (Lt w.heap.size) w u cells) (hs : ∀ l ∈ cells, l.length ≤ 1000000) (h40 : ¬ 40 < cells.length) :
    Calls Tryz.prog 31 #[u] w (RetMp (guessE wds0 cells) w) := by
  have HS := Lib.hid hs
  have HU := Lib.hid hu
  obtain ⟨A, c, rfl, h1, h2, _⟩ := hu.open_
  clear hs hu
  have HP := Blk.new w 33 #[.int .i64 0, .int .i64 0, .int .i64 0, .int .i64 0, .int .i64 0, .slice none 0 0, .slice none 0 0, .int .u8 0]
  have HB := Lib.hid (bone w (.cells #[.int .i64 0, .int .i64 0, .int .i64 0, .int .i64 0, .int .i64 0, .slice none 0 0, .slice none 0 0, .int .u8 0] 33))
  have i1 : ¬ (40 : Int) < (cells.length : Int) := by omega
  have HCN : Hid (¬ 40 < cells.length) := h40
  have hmk := fun w => run_make_n (P := Tryz.prog) 115 4 (.bool false) 1 Tryz.underlying115 (by kernel_rfl) cells.length (by omega) (by decide) rfl w
  clear h40
  go_enter Tryz.func31, Tryz.ntmps31
  go_upto_region 3 with fail
  obtain ⟨w0, hw0⟩ : ∃ w0, w.alloc (.cells #[.int .i64 0, .int .i64 0, .int .i64 0, .int .i64 0, .int .i64 0, .slice none 0 0, .slice none 0 0, .int .u8 0] 33) = w0 := ⟨_, rfl⟩
  rw [hw0] at HP HB ⊢
  have HGP : Hid (w.heap.size < w0.heap.size) := HP.lt
  have HP := Lib.hid HP
  clear hw0
  have HWL := Lib.hid (words_laid w0)
  go_upto_region 4 with fail
  obtain ⟨w4, hw4⟩ : ∃ w4, (((((w0.alloc (.cells #[.string ⟨#[99, 97, 115, 101]⟩, .string ⟨#[99, 97, 115, 101, 95, 105, 100]⟩, .string ⟨#[99, 97, 115, 101, 105, 100]⟩] 9)).alloc (.cells #[.string ⟨#[97, 99, 116, 105, 118, 105, 116, 121]⟩, .string ⟨#[97, 99, 116]⟩, .string ⟨#[101, 118, 101, 110, 116]⟩] 9)).alloc (.cells #[.string ⟨#[114, 101, 115, 111, 117, 114, 99, 101]⟩, .string ⟨#[114, 101, 115]⟩, .string ⟨#[117, 115, 101, 114]⟩] 9)).alloc (.cells #[.string ⟨#[108, 105, 102, 101]⟩, .string ⟨#[108, 105, 102, 101, 99, 121, 99, 108, 101]⟩] 9)).alloc (.cells #[.string ⟨#[116, 105, 109, 101]⟩, .string ⟨#[116, 105, 109, 101, 115, 116, 97, 109, 112]⟩, .string ⟨#[109, 105, 110, 117, 116, 101]⟩] 9)).alloc (.cells #[.slice (some ⟨w0.heap.size, 0, none⟩) 3 3, .slice (some ⟨w0.heap.size + 1, 0, none⟩) 3 3, .slice (some ⟨w0.heap.size + 2, 0, none⟩) 3 3, .slice (some ⟨w0.heap.size + 3, 0, none⟩) 2 2, .slice (some ⟨w0.heap.size + 4, 0, none⟩) 3 3] 51) = w4 := ⟨_, rfl⟩
  rw [hw4] at HWL ⊢
  clear hw4
  have HWS := Lib.hid HWL.out.1
  have HB4 := Lib.hid (HB.out.trans (HWL.out.2.mono HB.out.size))
  have HP4 := Lib.hid (HP.out.now HWL.out.2)
  have HU4 := Lib.hid (HU.out.now HB4.out)
  have HPL : Hid (w.heap.size < w4.heap.size) := Nat.lt_of_lt_of_le HGP.out HWL.out.2.size
  obtain ⟨gw, hgw⟩ : ∃ gw, w0.heap.size + 5 = gw := ⟨_, rfl⟩
  rw [hgw] at HWS ⊢
  clear hgw HWL HGP HB HP HU
  have k5 := Blk.new w4 3 #[.int .i64 (-1), .int .i64 (-1), .int .i64 (-1), .int .i64 (-1), .int .i64 (-1)]
  have b5 := bone w4 (.cells #[.int .i64 (-1), .int .i64 (-1), .int .i64 (-1), .int .i64 (-1), .int .i64 (-1)] 3)
  go_upto_region 5 with fail
  obtain ⟨w5, hw5⟩ : ∃ w5, w4.alloc (.cells #[.int .i64 (-1), .int .i64 (-1), .int .i64 (-1), .int .i64 (-1), .int .i64 (-1)] 3) = w5 := ⟨_, rfl⟩
  have z5 : w5.heap.size = w4.heap.size + 1 := by rw [← hw5]; simp
  rw [hw5] at k5 b5 ⊢
  clear hw5
  have b6 := bone w5 (.cells (madeCells #[.bool false] cells.length) 4)
  have m6 := OwnF.made (f := Value.bool) w5 4 cells.length false (by unfold maxLen; omega)
  go_upto_region 6 with fail
  obtain ⟨w6, hw6⟩ : ∃ w6, w5.alloc (.cells (madeCells #[.bool false] cells.length) 4) = w6 := ⟨_, rfl⟩
  rw [hw6] at m6 b6 ⊢
  clear hw6 hmk
  rw [z5] at m6
  have HR6 : Hid (RefS w4 w6 w4.heap.size (w4.heap.size + 1) cells.length (fndL cells 0) (takenL (fndL cells 0) cells.length)) := Lib.hid ⟨k5.now b6, by rw [fndL_zero, takenL_none]; exact m6, b5.trans (b6.mono (by omega))⟩
  obtain ⟨gp, hgp⟩ : ∃ gp, w4.heap.size = gp := ⟨_, rfl⟩
  rw [hgp] at HR6 HPL ⊢
  have HGP := Lib.hid hgp
  obtain ⟨gt, hgt⟩ : ∃ gt, gp + 1 = gt := ⟨_, rfl⟩
  rw [hgt] at HR6 ⊢
  have HGT := Lib.hid hgt
  clear k5 b5 b6 m6 z5 hgp hgt
  go_wp2_with fail
  go_loopw [7] (fun iv wr => ∃ i : Nat, iv = .int .i64 (i : Int) ∧ i ≤ 5 ∧ Hid (RefS w4 wr gp gt cells.length (fndL cells i) (takenL (fndL cells i) cells.length))) (fun iv _ => 5 - (intOf iv).toNat)
  case atStart => exact ⟨0, rfl, Nat.zero_le _, HR6⟩
  case round =>
    obtain ⟨i, rfl, hi, HRi⟩ := hrel
    by_cases hi5 : i < 5
    · obtain ⟨wo, hwo⟩ : ∃ wo, wo = wr := ⟨wr, rfl⟩
      rw [← hwo] at HRi ⊢
      clear hwo
      obtain ⟨bw, ow, ws, vws, hAw, hDw, hxw, hvw, hcw⟩ := SlSS.at_ HWS.out (k := i) (by show i < 5; exact hi5)
      injection hAw with hAw
      injection hAw with e1 e2
      subst e1 e2
      rw [Nat.zero_add] at hcw
      obtain ⟨Aw, cw, rfl, _, _, hvw⟩ := hvw.open_
      have HVW := Lib.hid hvw
      have HCW := Lib.hid hcw
      have HXW := Lib.hid hxw
      have HDW := Lib.hid hDw
      have hi0 : (0 : Int) ≤ (i : Int) := by omega
      have hi1 : (i : Int) < 5 := by omega
      clear hvw hcw hxw hDw
      have HFI := Lib.hid (fndL_at cells hi5)
      go_wp2_with fail
      go_loopw [8] (fun jv wr => ∃ j : Nat, jv = .int .i64 (j : Int) ∧ j ≤ cells.length ∧ Hid (RefS w4 wr gp gt cells.length ((fndL cells i).set i (findB ws (cells.take j))) (takenL ((fndL cells i).set i (findB ws (cells.take j))) cells.length))) (fun jv _ => cells.length - (intOf jv).toNat)
      case atStart => exact ⟨0, rfl, Nat.zero_le _, Lib.hid (by
        have e : (fndL cells i).set i (findB ws (cells.take 0)) = fndL cells i := by
          rw [List.take_zero, findB_nil]
          refine List.ext_getElem? fun q => ?_
          by_cases e : i = q
          · subst e; rw [List.getElem?_set_self (by rw [fndL_len cells hi]; exact hi5), HFI.out]
          · rw [List.getElem?_set_ne e]
        rw [e]; exact HRi.out)⟩
      case round =>
        obtain ⟨j, rfl, hj, HRj⟩ := hrel
        by_cases hlt : j < cells.length
        · have HUj := HU4.out.now (by have := HRj.out.bel; rw [← HGP.out] at this; exact this)
          obtain ⟨bc, oc, t, rfl, hDc, hx, hml, hcc⟩ := HUj.at_ hlt
          have HX := Lib.hid hx
          have HTS := Lib.hid (HS.out t (List.mem_of_getElem? hx))
          have HFT := Lib.hid (findB_take (ws := ws) hx)
          have HFB := Lib.hid (findB_bound ws (cells.take j))
          have HTL : Hid ((takenL ((fndL cells i).set i (findB ws (cells.take j))) cells.length).length = cells.length) := Lib.hid (takenL_len _ _)
          have hpc : wr.cell? ⟨gp, i, none⟩ = some (.int .i64 (findB ws (cells.take j))) := by
            rw [HRj.out.pl.cell i, List.getElem?_toArray, List.getElem?_map, List.getElem?_set_self (by rw [fndL_len cells hi]; exact hi5)]
            rfl
          have hlg := HRj.out.pl.lt
          have hbw : ∀ W, (ext wr W).cell? ⟨gw, i, none⟩ = some (.slice Aw ws.length cw) := fun W => ((ext_below wr W).cell (p := ⟨gw, i, none⟩) (Nat.lt_of_lt_of_le HDW.out (by have := HRj.out.bel.size; exact this))).trans ((HRj.out.bel.cell (p := ⟨gw, i, none⟩) (by rw [← HGP.out]; exact HDW.out)).trans HCW.out)
          have hbc : ∀ W, (ext wr W).cell? ⟨bc, oc + j, none⟩ = some (.string (bsOf t)) := fun W => ((ext_below wr W).cell (p := ⟨bc, oc + j, none⟩) hDc).trans hcc
          have hbp : ∀ W, (ext wr W).cell? ⟨gp, i, none⟩ = some (.int .i64 (findB ws (cells.take j))) := fun W => ((ext_below wr W).cell (p := ⟨gp, i, none⟩) hlg).trans hpc
          have HSM : Hid (∀ W, Calls Tryz.prog 79 #[.string (bsOf t)] (ext wr W) fun e w' => e = .returned (.string (bsOf (smallB t))) ∧ Below (ext wr W).heap.size (ext wr W) w') := Lib.hid fun W => (small_ref (bsOf t) (ext wr W) (by rw [bs_size]; exact HTS.out)).mono fun _ _ h => h
          have HIX : Hid (∀ W, Calls Tryz.prog 78 #[.slice Aw ws.length cw, .string (bsOf (smallB t))] (ext wr W) fun e w' => e = .returned (.int .i64 (atS (ws.map bsOf) (bsOf (smallB t)))) ∧ ext wr W = w') := Lib.hid fun W => index_ref _ (ws.map bsOf) _ (ext wr W) (SlP.now (SlP.now HVW.out (by have := HRj.out.bel; rw [← HGP.out] at this; exact this)) (ext_below wr W))
          have HQ := Lib.hid (atS_mem ws (smallB t))
          generalize hff : findB ws (cells.take j) = f at *
          have HFE := Lib.hid hff
          clear hff hx hml hDc hcc hpc HUj hlg
          generalize atS (ws.map bsOf) (bsOf (smallB t)) = zi at *
          have hj0 : (0 : Int) ≤ (j : Int) := by omega
          have hj1 : (j : Int) < (cells.length : Int) := by omega
          by_cases hf0 : 0 ≤ f
          · have hfd : decide (f < 0) = false := decide_eq_false (by omega)
            have HNX : Hid (findB ws (cells.take (j + 1)) = f) := by show _ = _; rw [HFT.out, if_pos hf0]
            clear hf0 HFT HSM HIX
            go_upto_region 12 with fail
            refine wp_region_growV (by kernel_rfl) (by kernel_rfl) ?_
            repeat (refine veil_step (fun K hK => ?_); go_simp; first | (refine hK _ ?_; clear hK K))
            refine veil_nil ?_
            intro _ hw'
            obtain ⟨W, rfl⟩ := hw'
            go_wp2_with fail
            go_roundw
            case rel => exact ⟨j + 1, by go_num, by omega, Lib.hid (by rw [HNX.out]; exact HRj.out.now (ext_below wr W))⟩
            case measure => simp [intOf]; omega
          · have hfm : f = -1 := by have := HFB.out; omega
            subst hfm
            have hfd : decide ((-1 : Int) < 0) = true := by decide
            cases hq : decide (smallB t ∈ ws)
            · have hz : decide (0 ≤ zi) = false := by rw [HQ.out, hq]
              have HNX : Hid (findB ws (cells.take (j + 1)) = -1) := by show _ = _; rw [HFT.out, if_neg (by omega), if_neg (of_decide_eq_false hq)]
              clear hf0 HFT hq HQ
              go_upto_region 12 with fail
              refine wp_region_growV (by kernel_rfl) (by kernel_rfl) ?_
              repeat (refine veil_step (fun K hK => ?_); go_simp; first | (refine hK _ ?_; clear hK K) | (apply Exists.intro; refine ⟨fun Wq => ?_, hK _ ?_⟩; (first | (go_at_call 79; exact grow_of (HSM.out Wq)) | (go_at_call 78; exact grow_same' (HIX.out Wq))); clear hK K))
              refine veil_nil ?_
              intro _ hw'
              obtain ⟨W, rfl⟩ := hw'
              go_wp2_with fail
              go_roundw
              case rel => exact ⟨j + 1, by go_num, by omega, Lib.hid (by rw [HNX.out]; exact HRj.out.now (ext_below wr W))⟩
              case measure => simp [intOf]; omega
            · have hz : decide (0 ≤ zi) = true := by rw [HQ.out, hq]
              have HNX : Hid (findB ws (cells.take (j + 1)) = (j : Int)) := by show _ = _; rw [HFT.out, if_neg (by omega), if_pos (of_decide_eq_true hq)]
              clear hf0 HFT hq HQ
              go_upto_region 12 with fail
              refine wp_region_growV (by kernel_rfl) (by kernel_rfl) ?_
              repeat (refine veil_step (fun K hK => ?_); go_simp; first | (refine hK _ ?_; clear hK K) | (apply Exists.intro; refine ⟨fun Wq => ?_, hK _ ?_⟩; (first | (go_at_call 79; exact grow_of (HSM.out Wq)) | (go_at_call 78; exact grow_same' (HIX.out Wq))); clear hK K))
              refine veil_nil ?_
              intro _ hw'
              obtain ⟨W, rfl⟩ := hw'
              have HRW := Lib.hid (HRj.out.now (ext_below wr W))
              have hfp := HRW.out.pl.frozen i
              have hft := HRW.out.tk.frozen j
              have hcp := hbp W
              obtain ⟨bq, hbq⟩ : ∃ bq, (takenL ((fndL cells i).set i (-1)) cells.length)[j]? = some bq := ⟨_, takenL_at _ hlt⟩
              have hct := HRW.out.tk.cell hbq
              have HR2 := Lib.hid ((HRW.out.put i (j : Int)).take_ j true)
              have hct2 := (HRW.out.put i (j : Int)).tk.cell hbq
              have hft2 := (HRW.out.put i (j : Int)).tk.frozen j
              have HST : Hid (RefS w4 (((ext wr W).setCell ⟨gp, i, none⟩ (.int .i64 (j : Int))).setCell ⟨gt, j, none⟩ (.bool true)) gp gt cells.length ((fndL cells i).set i (j : Int)) (takenL ((fndL cells i).set i (j : Int)) cells.length)) := Lib.hid (by
                have := HR2.out
                rw [takenL_set (by rw [List.getElem?_set_self (by rw [fndL_len cells hi]; exact hi5)]) hlt, List.set_set] at this
                exact this)
              clear hbq hbw hbc hbp HSM HIX
              generalize ext wr W = wx at *
              go_wp2_with fail
              go_roundw
              case rel => exact ⟨j + 1, by go_num, by omega, Lib.hid (by rw [HNX.out]; exact HST.out)⟩
              case measure => simp [intOf]; omega
        · have hje : j = cells.length := by omega
          have HEND : Hid (RefS w4 wr gp gt cells.length (fndL cells (i + 1)) (takenL (fndL cells (i + 1)) cells.length)) := Lib.hid (by
            have := HRj.out
            rw [hje, List.take_of_length_le (Nat.le_refl _), fndL_step HXW.out] at this
            exact this)
          have hjl : ¬ (j : Int) < (cells.length : Int) := by omega
          clear hje hlt
          go_wp2_with fail
          go_roundw
          case rel => exact ⟨i + 1, by go_num, by omega, HEND⟩
          case measure => simp [intOf]; omega
    · have hie : i = 5 := by omega
      subst hie
      rw [show ((5 : Nat) : Int) = 5 from rfl]
      have HE : Hid (guessE wds0 cells = if findB wCas cells < 0 ∨ findB wAct cells < 0 ∨ findB wTime cells < 0 then (Mp.zero, 10) else
          ({ (⟨findB wCas cells, findB wAct cells, findB wRes cells, findB wLife cells, findB wTime cells, [], [], 44⟩ : Mp) with data := pickB (fieldsB ⟨findB wCas cells, findB wAct cells, findB wRes cells, findB wLife cells, findB wTime cells, [], [], 44⟩) 0 [] [] cells, kinds := List.replicate (pickB (fieldsB ⟨findB wCas cells, findB wAct cells, findB wRes cells, findB wLife cells, findB wTime cells, [], [], 44⟩) 0 [] [] cells).length 3 }, 0)) := by
        show _ = _; unfold guessE; rw [if_neg HCN.out]; rfl
      have HPw := Lib.hid (HP4.out.below HRi.out.bel (by rw [← HGP.out]; exact HP4.out.lt))
      have HBw := Lib.hid (HB4.out.trans ((show Below w4.heap.size w4 wr by rw [HGP.out]; exact HRi.out.bel).mono HB4.out.size))
      have HUw := Lib.hid (HU4.out.now (show Below w4.heap.size w4 wr by rw [HGP.out]; exact HRi.out.bel))
      have HPL2 : Hid (w.heap.size < gp) := HPL
      have HTK := Lib.hid HRi.out.tk
      have HPC := HRi.out.pl
      rw [fndL_five] at HTK HPC
      have hz1 := findB_bound wCas cells
      have hz2 := findB_bound wAct cells
      have hz3 := findB_bound wRes cells
      have hz4 := findB_bound wLife cells
      have hz5 := findB_bound wTime cells
      generalize findB wCas cells = z1 at *
      generalize findB wAct cells = z2 at *
      generalize findB wRes cells = z3 at *
      generalize findB wLife cells = z4 at *
      generalize findB wTime cells = z5 at *
      have HFM : Hid (Fit z1 ∧ Fit z2 ∧ Fit z3 ∧ Fit z4 ∧ Fit z5) := by show _ ∧ _; unfold Fit; have := HCN.out; omega
      have HPC : Blk wr gp 3 #[.int .i64 z1, .int .i64 z2, .int .i64 z3, .int .i64 z4, .int .i64 z5] := HPC
      obtain ⟨y0, y1, y2, y3, y4⟩ := HPC.c5
      obtain ⟨P, hPe⟩ : ∃ P, w.heap.size = P := ⟨_, rfl⟩
      rw [hPe] at HPw HPL2 ⊢
      have HPW := Lib.hid hPe
      clear hPe HP4 HB4 HU4 HPL HWS HRi hi hi5
      by_cases e1 : z1 < 0 ∨ z2 < 0 ∨ z5 < 0
      · have HE2 : Hid (guessE wds0 cells = (Mp.zero, 10)) := by show _ = _; rw [HE.out, if_pos e1]
        obtain ⟨p0, p1, p2, p3, p4, p5, p6, p7⟩ := HPw.out.c8m
        have f0 := HPw.out.frozen 0
        have f1 := HPw.out.frozen 1
        have f2 := HPw.out.frozen 2
        have f3 := HPw.out.frozen 3
        have f4 := HPw.out.frozen 4
        have f5 := HPw.out.frozen 5
        have f6 := HPw.out.frozen 6
        have f7 := HPw.out.frozen 7
        have HR := Lib.hid (HPw.out.set8m (.int .i64 0) (.int .i64 0) (.int .i64 0) (.int .i64 0) (.int .i64 0) (.slice none 0 0) (.slice none 0 0) (.int .u8 0))
        have HBR := Lib.hid (bset8m (g := P) HBw.out (by rw [HPW.out]; exact Nat.le_refl _) (.int .i64 0) (.int .i64 0) (.int .i64 0) (.int .i64 0) (.int .i64 0) (.slice none 0 0) (.slice none 0 0) (.int .u8 0))
        by_cases a1 : z1 < 0
        · clear e1
          go_wp2_with fail
          obtain ⟨W8, hW8⟩ : ∃ W8, ((((((((wr.setCell ⟨P, 0, none⟩ (.int .i64 0)).setCell ⟨P, 1, none⟩ (.int .i64 0)).setCell ⟨P, 2, none⟩ (.int .i64 0)).setCell ⟨P, 3, none⟩ (.int .i64 0)).setCell ⟨P, 4, none⟩ (.int .i64 0)).setCell ⟨P, 5, none⟩ (.slice none 0 0)).setCell ⟨P, 6, none⟩ (.slice none 0 0)).setCell ⟨P, 7, none⟩ (.int .u8 0)) = W8 := ⟨_, rfl⟩
          rw [hW8] at HR HBR ⊢
          clear hW8
          obtain ⟨q0, q1, q2, q3, q4, q5, q6, q7⟩ := HR.out.c8m
          refine bodyPost_ret (v := .tuple #[.agg #[.int .i64 0, .int .i64 0, .int .i64 0, .int .i64 0, .int .i64 0, .slice none 0 0, .slice none 0 0, .int .u8 0], .int .i64 10]) (by simp [results, Tryz.results31, go_sem, q0, q1, q2, q3, q4, q5, q6, q7]) rfl ?_
          show RetMp _ _ _ _
          rw [HE2.out]
          exact ⟨_, rfl, isMp_zero _, HBR.out⟩
        · by_cases a2 : z2 < 0
          · clear e1
            go_wp2_with fail
            obtain ⟨W8, hW8⟩ : ∃ W8, ((((((((wr.setCell ⟨P, 0, none⟩ (.int .i64 0)).setCell ⟨P, 1, none⟩ (.int .i64 0)).setCell ⟨P, 2, none⟩ (.int .i64 0)).setCell ⟨P, 3, none⟩ (.int .i64 0)).setCell ⟨P, 4, none⟩ (.int .i64 0)).setCell ⟨P, 5, none⟩ (.slice none 0 0)).setCell ⟨P, 6, none⟩ (.slice none 0 0)).setCell ⟨P, 7, none⟩ (.int .u8 0)) = W8 := ⟨_, rfl⟩
            rw [hW8] at HR HBR ⊢
            clear hW8
            obtain ⟨q0, q1, q2, q3, q4, q5, q6, q7⟩ := HR.out.c8m
            refine bodyPost_ret (v := .tuple #[.agg #[.int .i64 0, .int .i64 0, .int .i64 0, .int .i64 0, .int .i64 0, .slice none 0 0, .slice none 0 0, .int .u8 0], .int .i64 10]) (by simp [results, Tryz.results31, go_sem, q0, q1, q2, q3, q4, q5, q6, q7]) rfl ?_
            show RetMp _ _ _ _
            rw [HE2.out]
            exact ⟨_, rfl, isMp_zero _, HBR.out⟩
          · have a3 : z5 < 0 := by omega
            clear e1
            go_wp2_with fail
            obtain ⟨W8, hW8⟩ : ∃ W8, ((((((((wr.setCell ⟨P, 0, none⟩ (.int .i64 0)).setCell ⟨P, 1, none⟩ (.int .i64 0)).setCell ⟨P, 2, none⟩ (.int .i64 0)).setCell ⟨P, 3, none⟩ (.int .i64 0)).setCell ⟨P, 4, none⟩ (.int .i64 0)).setCell ⟨P, 5, none⟩ (.slice none 0 0)).setCell ⟨P, 6, none⟩ (.slice none 0 0)).setCell ⟨P, 7, none⟩ (.int .u8 0)) = W8 := ⟨_, rfl⟩
            rw [hW8] at HR HBR ⊢
            clear hW8
            obtain ⟨q0, q1, q2, q3, q4, q5, q6, q7⟩ := HR.out.c8m
            refine bodyPost_ret (v := .tuple #[.agg #[.int .i64 0, .int .i64 0, .int .i64 0, .int .i64 0, .int .i64 0, .slice none 0 0, .slice none 0 0, .int .u8 0], .int .i64 10]) (by simp [results, Tryz.results31, go_sem, q0, q1, q2, q3, q4, q5, q6, q7]) rfl ?_
            show RetMp _ _ _ _
            rw [HE2.out]
            exact ⟨_, rfl, isMp_zero _, HBR.out⟩
      · have a1 : ¬ z1 < 0 := fun h => e1 (.inl h)
        have a2 : ¬ z2 < 0 := fun h => e1 (.inr (.inl h))
        have a3 : ¬ z5 < 0 := fun h => e1 (.inr (.inr h))
        rw [if_neg e1] at HE
        go_upto_region 17 with fail
        clear a1 a2 a3 hz1 hz2 hz3 hz4 hz5 e1 i1
        have HMZ := bone wr (.cells #[.int .i64 0, .int .i64 0, .int .i64 0, .int .i64 0, .int .i64 0, .slice none 0 0, .slice none 0 0, .int .u8 0] 33)
        obtain ⟨x0, x1, x2, x3, x4⟩ := (HPC.now HMZ).c5
        have hgpl := HPC.lt
        go_cut [9] from 80 to 95 (fun gv W => gv = .pointer (some ⟨wr.heap.size, 0, none⟩) ∧ W = (wr.alloc (.cells #[.int .i64 z1, .int .i64 z2, .int .i64 z3, .int .i64 z4, .int .i64 z5, .slice none 0 0, .slice none 0 0, .int .u8 44] 33)).drew)
        case first =>
          go_region
          all_goals (go_wp2_with fail; go_meet; exact ⟨rfl, rfl⟩)
        case rest =>
          obtain ⟨rfl, hwc⟩ := hcut
          have HG := Blk.new wr 33 #[.int .i64 z1, .int .i64 z2, .int .i64 z3, .int .i64 z4, .int .i64 z5, .slice none 0 0, .slice none 0 0, .int .u8 44]
          have hb17 := (bone wr (.cells #[.int .i64 z1, .int .i64 z2, .int .i64 z3, .int .i64 z4, .int .i64 z5, .slice none 0 0, .slice none 0 0, .int .u8 44] 33)).drew
          have z17 : ((wr.alloc (.cells #[.int .i64 z1, .int .i64 z2, .int .i64 z3, .int .i64 z4, .int .i64 z5, .slice none 0 0, .slice none 0 0, .int .u8 44] 33)).drew).heap.size = wr.heap.size + 1 := by show (wr.heap.push _).size = _; simp
          have HG := HG.drew
          rw [← hwc] at HG hb17 z17
          obtain ⟨w17, hw17⟩ : ∃ w17, wc = w17 := ⟨_, rfl⟩
          rw [hw17] at HG hb17 z17 ⊢
          obtain ⟨wq, hwq⟩ : ∃ wq, wr = wq := ⟨_, rfl⟩
          rw [hwq] at HG hb17 z17 HBw HUw HPw HTK ⊢
          have HPq := Lib.hid (HPw.out.now hb17)
          have HPLQ : Hid (P < wq.heap.size) := HPw.out.lt
          clear hwc hw17 hwq HMZ x0 x1 x2 x3 x4 y0 y1 y2 y3 y4 hgpl HPC HPw
          obtain ⟨G, hGe⟩ : ∃ G, wq.heap.size = G := ⟨_, rfl⟩
          rw [hGe] at HG z17 HPLQ ⊢
          obtain ⟨B, hBe⟩ : ∃ B, w17.heap.size = B := ⟨_, rfl⟩
          have HS5 := Lib.hid hGe
          have HGB : Hid (G < B) := by show _ < _; omega
          have HPG := HPLQ
          have HR0 : Hid (GsR B wq w17 (.slice none 0 0) (.slice none 0 0) (.slice none 0 0) [] [] []) := Lib.hid ⟨hb17, World.ownsRow_nil _ _ _ _, World.ownsRow_nil _ _ _ _, World.ownsRow_nil _ _ _ _, fun g hg => (by cases hg), (by omega), (by omega)⟩
          have HG := Lib.hid HG
          obtain ⟨T, hT⟩ : ∃ T, fieldsB ⟨z1, z2, z3, z4, z5, [], [], 44⟩ = T := ⟨_, rfl⟩
          rw [hT] at HE
          have HTM : Hid (∀ k : Nat, ((k : Int) ∈ T ↔ (k : Int) ∈ [z1, z2, z3, z4, z5])) := Lib.hid fun k => by
            rw [← hT]
            unfold fieldsB
            rw [List.mem_filter]
            exact ⟨fun h => h.1, fun h => ⟨h, decide_eq_true (by omega)⟩⟩
          obtain ⟨D, hD⟩ : ∃ D, pickB T 0 [] [] cells = D := ⟨_, rfl⟩
          rw [hD] at HE
          have HD : Hid (pickB T 0 [] [] (cells.drop 0) = D) := hD
          clear hb17 z17 hGe hBe hT hD
          go_wp2_with fail
          go_loopw [10, 11] (fun sv iv wy => ∃ (k : Nat) (seen : List Bt) (data : List Int) (dv kv : Value), iv = .int .i64 (k : Int) ∧ k ≤ cells.length ∧ Hid (pickB T k seen data (cells.drop k) = D) ∧ Hid (GsR B wq wy dv kv sv data (List.replicate data.length 3) seen) ∧ Hid (Blk wy G 33 #[.int .i64 z1, .int .i64 z2, .int .i64 z3, .int .i64 z4, .int .i64 z5, dv, kv, .int .u8 44]) ∧ Hid (Blk wy P 33 #[.int .i64 0, .int .i64 0, .int .i64 0, .int .i64 0, .int .i64 0, .slice none 0 0, .slice none 0 0, .int .u8 0]) ∧ Hid (data.length ≤ 8 ∧ seen.length = data.length ∧ (∀ x ∈ data, 0 ≤ x ∧ x < 1000) ∧ ∀ l ∈ seen, l.length ≤ 1000000)) (fun _ iv _ => cells.length - (intOf iv).toNat)
          case atStart => exact ⟨0, [], [], .slice none 0 0, .slice none 0 0, rfl, Nat.zero_le _, HD, HR0, HG, HPq, Lib.hid ⟨by simp, rfl, by simp, by simp⟩⟩
          case round =>
            obtain ⟨k, seen, data, dv, kv, rfl, hk, HPK, HRW, HGk, HPk, HLN⟩ := hrel
            obtain ⟨wy, hwy⟩ : ∃ wy, wr = wy := ⟨_, rfl⟩
            rw [hwy] at HRW HGk HPk ⊢
            clear hwy
            obtain ⟨Ad, cd, rfl⟩ := OwnZ.open_ HRW.out.dat
            obtain ⟨Ak, ck, hkv⟩ := OwnZ.open_ HRW.out.kin
            rw [List.length_replicate] at hkv
            subst hkv
            obtain ⟨As, cs, rfl⟩ := OwnT.open_ HRW.out.sn
            obtain ⟨c0, c1, c2, c3, c4, c5, c6, c7⟩ := HGk.out.c8m
            by_cases hlt : k < cells.length
            · have HUk := HUw.out.now HRW.out.bel
              obtain ⟨b, o, s, rfl, hDb, hx, hml, hc⟩ := HUk.at_ hlt
              have HX := Lib.hid hx
              have HSS := Lib.hid (HS.out s (List.mem_of_getElem? hx))
              have HST := Lib.hid (pick_step (T := T) (seen := seen) (data := data) hx)
              have hk0 : (0 : Int) ≤ (k : Int) := by omega
              have hk1 : (k : Int) < (cells.length : Int) := by omega
              have htk := (HTK.out.now HRW.out.bel).cell (takenL_at [z1, z2, z3, z4, z5] hlt)
              clear hx hml hDb HUk
              obtain ⟨q1, hq1⟩ : ∃ q1, decide ((k : Int) ∈ [z1, z2, z3, z4, z5]) = q1 := ⟨_, rfl⟩
              obtain ⟨q2, hq2⟩ : ∃ q2, isNameB (bsOf s) = q2 := ⟨_, rfl⟩
              obtain ⟨q3, hq3⟩ : ∃ q3, decide (s ∈ seen) = q3 := ⟨_, rfl⟩
              rw [hq1] at htk
              have H1 : Hid (q1 = true ↔ (k : Int) ∈ T) := by show _ ↔ _; rw [← hq1, decide_eq_true_eq]; exact (HTM.out k).symm
              have H2 : Hid (q2 = false ↔ isNameB ⟨s.toArray⟩ = false) := by show _ ↔ _; rw [← hq2]; exact Iff.rfl
              have H3 : Hid (q3 = true ↔ s ∈ seen) := by show _ ↔ _; rw [← hq3, decide_eq_true_eq]
              have HNM : Hid (∀ W, Calls Tryz.prog 80 #[.string (bsOf s)] W fun e w' => e = .returned (.bool q2) ∧ W = w') := Lib.hid fun W => by
                have := isName_ref (bsOf s) W (by rw [bs_size]; unfold maxLen; have := HSS.out; omega)
                rw [hq2] at this; exact this
              have hzi := atS_mem seen s
              have HIX : Hid (Calls Tryz.prog 78 #[.slice As seen.length cs, .string (bsOf s)] wy fun e w' => e = .returned (.int .i64 (atS (seen.map bsOf) (bsOf s))) ∧ wy = w') := Lib.hid (index_ref _ (seen.map bsOf) (bsOf s) wy (own_slP HRW.out.sn (fun l hl => by have := HLN.out.2.2.2 l hl; unfold maxLen; omega)))
              rw [hq3] at hzi
              generalize atS (seen.map bsOf) (bsOf s) = zi at *
              clear hq1 hq2 hq3
              have HP1 : Hid ((q1 = true ∨ data.length = 8 ∨ q2 = false ∨ q3 = true) → pickB T (k + 1) seen data (cells.drop (k + 1)) = D) := Lib.hid fun h => by
                rw [← HPK.out, HST.out, if_pos]
                rcases h with h | h | h | h
                · exact .inr (.inl (H1.out.1 h))
                · exact .inl h
                · exact .inr (.inr (.inl (H2.out.1 h)))
                · exact .inr (.inr (.inr (H3.out.1 h)))
              have HP2 : Hid (q1 = false → data.length ≠ 8 → q2 = true → q3 = false → pickB T (k + 1) (seen ++ [s]) (data ++ [(k : Int)]) (cells.drop (k + 1)) = D) := Lib.hid fun h1 h8 h2 h3 => by
                rw [← HPK.out, HST.out, if_neg]
                rintro (h | h | h | h)
                · exact h8 h
                · rw [H1.out.2 h] at h1; cases h1
                · rw [H2.out.2 h] at h2; cases h2
                · rw [H3.out.2 h] at h3; cases h3
              clear H1 H2 H3 HST
              cases q1
              · by_cases d8 : data.length = 8
                · have x8 : ((data.length : Int) == 8) = true := by rw [d8]; rfl
                  have HP1 := Lib.hid (HP1.out (.inr (.inl d8)))
                  clear d8
                  go_wp2_with fail
                  go_roundw
                  case rel => exact ⟨k + 1, seen, data, _, _, by go_num, by omega, HP1, HRW, HGk, HPk, HLN⟩
                  case measure => simp [intOf]; omega
                have x8 : ((data.length : Int) == 8) = false := beq_false_of_ne (by omega)
                have HD8 := Lib.hid d8
                clear d8
                cases q2
                · go_wp2_with (first | (go_at_call 80; (with_reducible refine (HNM.out _).mono ?_); rintro e w8 ⟨rfl, rfl⟩) | (go_at_call 78; (with_reducible refine HIX.out.mono ?_); rintro e w8 ⟨rfl, rfl⟩))
                  go_roundw
                  case rel =>
                    have HP1 := Lib.hid (HP1.out (by simp))
                    exact ⟨k + 1, seen, data, _, _, by go_num, by omega, HP1, HRW, HGk, HPk, HLN⟩
                  case measure => simp [intOf]; omega
                · cases q3
                  · have HN9 : Hid (seen.length < 10000000 ∧ data.length < 1000000) := by show _ ∧ _; have := HLN.out; omega
                    have HPD := Lib.hid (HP2.out (by simp) HD8.out (by simp) (by simp))
                    have HLD : Hid ((data ++ [(k : Int)]).length ≤ 8 ∧ (seen ++ [s]).length = (data ++ [(k : Int)]).length ∧ (∀ x ∈ data ++ [(k : Int)], 0 ≤ x ∧ x < 1000) ∧ ∀ l ∈ seen ++ [s], l.length ≤ 1000000) := by
                      obtain ⟨l1, l2, l3, l4⟩ := HLN.out
                      have l0 := HD8.out
                      have lc := HCN.out
                      refine Lib.hid ⟨?_, ?_, ?_, ?_⟩
                      · rw [List.length_append, List.length_singleton]; omega
                      · rw [List.length_append, List.length_append, List.length_singleton, List.length_singleton]; omega
                      · intro x hx
                        rcases List.mem_append.1 hx with h | h
                        · exact l3 x h
                        · rw [List.mem_singleton] at h; omega
                      · intro x hx
                        rcases List.mem_append.1 hx with h | h
                        · exact l4 x h
                        · rw [List.mem_singleton] at h; rw [h]; exact HSS.out
                    go_upto_region 24 with (first | (go_at_call 80; (with_reducible refine (HNM.out _).mono ?_); rintro e w8 ⟨rfl, rfl⟩) | (go_at_call 78; (with_reducible refine HIX.out.mono ?_); rintro e w8 ⟨rfl, rfl⟩) | (at_builtin; refine wpList_push appStr rfl (.tmp 129) (.tmp 134) rfl wy [.string (bsOf s)] rfl (by simp [Value.oneCell']) _ seen.length (seen.map fun l => Value.string (bsOf l)) rfl HRW.out.sn rfl HN9.out.1 HRW.out.size ?_; intro v9 w10 hown hgr hat))
                    have HR10 := Lib.hid (HRW.out.addS hown hgr)
                    have HGx : Hid (some G ≠ (Value.slice As seen.length cs).ownBlock) := Lib.hid fun e => by have := (World.ownsRow.lt HRW.out.sn G e.symm).1; have := HGB.out; omega
                    have HPx : Hid (some P ≠ (Value.slice As seen.length cs).ownBlock) := Lib.hid fun e => by have := (World.ownsRow.lt HRW.out.sn P e.symm).1; have := HGB.out; have := HPG.out; omega
                    have HG10 := Lib.hid (HGk.out.grown hgr HGx.out)
                    have HP10 := Lib.hid (HPk.out.grown hgr HPx.out)
                    clear HRW HGk HPk HGx HPx hown hgr hat c0 c1 c2 c3 c4 c5 c6 c7 htk hc HIX HNM
                    obtain ⟨c0, c1, c2, c3, c4, c5, c6, c7⟩ := HG10.out.c8m
                    go_upto_region 25 with (at_builtin; refine wpList_plain rfl (fun K hK => wp_pickD (.tmp 137) (.tmp 139) (k : Int) rfl (HR10.out.now (bone _ _)) (OffG.new HR10.out _ _) rfl rfl HN9.out.2 ?_); intro r1 w21 hP1 hT1; obtain ⟨A1, n1, cc1, hr1⟩ := OwnZ.open' hP1.dat; subst hr1; have hO1 := hT1 _ _ _ (OffG.now (OffG.low HR10.out HG10.out HGB.out) (bone _ _)); have hQ1 := hT1 _ _ _ (OffG.now (OffG.low HR10.out HP10.out (Nat.lt_trans HPG.out HGB.out)) (bone _ _)); have HP21 := Lib.hid hP1; have HO21 := Lib.hid hO1.blk; have HQ21 := Lib.hid hQ1.blk; clear hT1 hO1 hQ1 hP1; obtain ⟨g0, g1, g2, g3, g4, g5, g6, g7⟩ := HO21.out.c8m; have f5 := HO21.out.frozen 5; refine hK _ _ ?_; clear hK K)
                    have hgw : wq.heap.size ≤ G := by have := HS5.out; omega
                    have hgp' : P ≠ G := by have := HPG.out; omega
                    have HP22 := Lib.hid (HP21.out.set_ (k := 5) (u := .slice A1 n1 cc1) hgw HGB.out)
                    have HO22 : Hid (Blk (w21.setCell ⟨G, 5, none⟩ (.slice A1 n1 cc1)) G 33 #[.int .i64 z1, .int .i64 z2, .int .i64 z3, .int .i64 z4, .int .i64 z5, .slice A1 n1 cc1, .slice Ak data.length ck, .int .u8 44]) := Lib.hid (HO21.out.set_ 5 (.slice A1 n1 cc1))
                    have HQ22 := Lib.hid (HQ21.out.far (p := ⟨G, 5, none⟩) hgp' (.slice A1 n1 cc1))
                    obtain ⟨w22, hw22⟩ : ∃ w22, w21.setCell ⟨G, 5, none⟩ (.slice A1 n1 cc1) = w22 := ⟨_, rfl⟩
                    rw [hw22] at HP22 HO22 HQ22 ⊢
                    clear hw22 HP21 HO21 HQ21 g0 g1 g2 g3 g4 g5 g6 g7 f5 HR10 HG10 HP10 c0 c1 c2 c3 c4 c5 c6 c7
                    obtain ⟨c0, c1, c2, c3, c4, c5, c6, c7⟩ := HO22.out.c8m
                    have HN10 : Hid ((List.replicate data.length (3 : Int)).length < 1000000) := by show _ < _; rw [List.length_replicate]; exact HN9.out.2
                    go_wp2_with (at_builtin; refine wpList_plain rfl (fun K hK => wp_pickK (.tmp 143) (.tmp 144) 3 rfl (HP22.out.now (bone _ _)) (OffG.new HP22.out _ _) rfl rfl HN10.out ?_); intro r2 w31 hP1 hT1; obtain ⟨A2, n2, cc2, hr2⟩ := OwnZ.open' hP1.kin; subst hr2; have hO1 := hT1 _ _ _ (OffG.now (OffG.low HP22.out HO22.out HGB.out) (bone _ _)); have hQ1 := hT1 _ _ _ (OffG.now (OffG.low HP22.out HQ22.out (Nat.lt_trans HPG.out HGB.out)) (bone _ _)); have HP31 := Lib.hid hP1; have HO31 := Lib.hid hO1.blk; have HQ31 := Lib.hid hQ1.blk; clear hT1 hO1 hQ1 hP1; obtain ⟨g0, g1, g2, g3, g4, g5, g6, g7⟩ := HO31.out.c8m; have f6 := HO31.out.frozen 6; refine hK _ _ ?_; clear hK K)
                    have HP32 := Lib.hid (HP31.out.set_ (k := 6) (u := .slice A2 n2 cc2) hgw HGB.out)
                    have HO32 : Hid (Blk (w31.setCell ⟨G, 6, none⟩ (.slice A2 n2 cc2)) G 33 #[.int .i64 z1, .int .i64 z2, .int .i64 z3, .int .i64 z4, .int .i64 z5, .slice A1 n1 cc1, .slice A2 n2 cc2, .int .u8 44]) := Lib.hid (HO31.out.set_ 6 (.slice A2 n2 cc2))
                    have HQ32 := Lib.hid (HQ31.out.far (p := ⟨G, 6, none⟩) hgp' (.slice A2 n2 cc2))
                    have e3 : List.replicate (data ++ [(k : Int)]).length (3 : Int) = List.replicate data.length 3 ++ [3] := by rw [List.length_append, List.length_singleton, List.replicate_succ']
                    rw [← e3] at HP32
                    go_roundw
                    case rel => exact ⟨k + 1, seen ++ [s], data ++ [(k : Int)], _, _, by go_num, by omega, HPD, HP32, HO32, HQ32, HLD⟩
                    case measure => simp [intOf]; omega
                  · go_wp2_with (first | (go_at_call 80; (with_reducible refine (HNM.out _).mono ?_); rintro e w8 ⟨rfl, rfl⟩) | (go_at_call 78; (with_reducible refine HIX.out.mono ?_); rintro e w8 ⟨rfl, rfl⟩))
                    go_roundw
                    case rel =>
                      have HP1 := Lib.hid (HP1.out (by simp))
                      exact ⟨k + 1, seen, data, _, _, by go_num, by omega, HP1, HRW, HGk, HPk, HLN⟩
                    case measure => simp [intOf]; omega
              · go_wp2_with (first | (go_at_call 80; (with_reducible refine (HNM.out _).mono ?_); rintro e w8 ⟨rfl, rfl⟩) | (go_at_call 78; (with_reducible refine HIX.out.mono ?_); rintro e w8 ⟨rfl, rfl⟩))
                go_roundw
                case rel =>
                  have HP1 := Lib.hid (HP1.out (by simp))
                  exact ⟨k + 1, seen, data, _, _, by go_num, by omega, HP1, HRW, HGk, HPk, HLN⟩
                case measure => simp [intOf]; omega
            · have hkn : cells.length ≤ k := by omega
              have HDD : Hid (data = D) := by show _ = _; rw [← HPK.out, pick_done hkn]
              obtain ⟨p0, p1, p2, p3, p4, p5, p6, p7⟩ := HPk.out.c8m
              have f0 := HPk.out.frozen 0
              have f1 := HPk.out.frozen 1
              have f2 := HPk.out.frozen 2
              have f3 := HPk.out.frozen 3
              have f4 := HPk.out.frozen 4
              have f5 := HPk.out.frozen 5
              have f6 := HPk.out.frozen 6
              have f7 := HPk.out.frozen 7
              have HR := Lib.hid (HPk.out.set8m (.int .i64 z1) (.int .i64 z2) (.int .i64 z3) (.int .i64 z4) (.int .i64 z5) (.slice Ad data.length cd) (.slice Ak data.length ck) (.int .u8 44))
              have HBy := Lib.hid (HBw.out.trans (HRW.out.bel.mono HBw.out.size))
              have HBR := Lib.hid (bset8m (g := P) HBy.out (by rw [HPW.out]; exact Nat.le_refl _) (.int .i64 z1) (.int .i64 z2) (.int .i64 z3) (.int .i64 z4) (.int .i64 z5) (.slice Ad data.length cd) (.slice Ak data.length ck) (.int .u8 44))
              have HPB : Hid (P < B) := Lib.hid (Nat.lt_trans HPG.out HGB.out)
              have HOD := Lib.hid (own_far8 HRW.out.dat HPB.out (.int .i64 z1) (.int .i64 z2) (.int .i64 z3) (.int .i64 z4) (.int .i64 z5) (.slice Ad data.length cd) (.slice Ak data.length ck) (.int .u8 44))
              have HOK := Lib.hid (own_far8 HRW.out.kin HPB.out (.int .i64 z1) (.int .i64 z2) (.int .i64 z3) (.int .i64 z4) (.int .i64 z5) (.slice Ad data.length cd) (.slice Ak data.length ck) (.int .u8 44))
              have hkl : ¬ (k : Int) < (cells.length : Int) := by omega
              clear hkn hlt
              go_wp2_with fail
              obtain ⟨W8, hW8⟩ : ∃ W8, ((((((((wy.setCell ⟨P, 0, none⟩ (.int .i64 z1)).setCell ⟨P, 1, none⟩ (.int .i64 z2)).setCell ⟨P, 2, none⟩ (.int .i64 z3)).setCell ⟨P, 3, none⟩ (.int .i64 z4)).setCell ⟨P, 4, none⟩ (.int .i64 z5)).setCell ⟨P, 5, none⟩ (.slice Ad data.length cd)).setCell ⟨P, 6, none⟩ (.slice Ak data.length ck)).setCell ⟨P, 7, none⟩ (.int .u8 44)) = W8 := ⟨_, rfl⟩
              rw [hW8] at HR HBR HOD HOK ⊢
              clear hW8
              obtain ⟨q0, q1, q2, q3, q4, q5, q6, q7⟩ := HR.out.c8m
              refine bodyPost_ret (v := .tuple #[.agg #[.int .i64 z1, .int .i64 z2, .int .i64 z3, .int .i64 z4, .int .i64 z5, .slice Ad data.length cd, .slice Ak data.length ck, .int .u8 44], .int .i64 0]) (by simp [results, Tryz.results31, go_sem, q0, q1, q2, q3, q4, q5, q6, q7]) rfl ?_
              show RetMp _ _ _ _
              rw [HE.out, ← HDD.out]
              refine ⟨_, rfl, ⟨_, _, rfl, ⟨HFM.out.1, HFM.out.2.1, HFM.out.2.2.1, HFM.out.2.2.2.1, HFM.out.2.2.2.2⟩, SlI.of_own HOD.out (fun z hz => by have := HLN.out.2.2.1 z hz; unfold Fit; omega), ?_⟩, HBR.out⟩
              have h := SlI.of_own HOK.out (fun z hz => by rw [List.eq_of_mem_replicate hz]; unfold Fit; omega)
              exact h
theorem guess_ref (u : Value) (cells : List Bt) (w : World) (hu : SlP (Lt w.heap.size) w u cells) (hs : ∀ l ∈ cells, l.length ≤ 1000000) :
    Calls Tryz.prog 31 #[u] w (RetMp (guessE wds0 cells) w) := by
  by_cases h : 40 < cells.length
  · exact guessR_long u cells w hu hs h
  · exact guessR_short u cells w hu hs h
end Go.Proofs.YtoalecalahkblaaGreatDoor

set_option linter.all false
namespace Go.Proofs.YtoalecalahkblaaGreatDoor
open Go.RowKit
set_option maxHeartbeats 2000000 in
set_option maxRecDepth 100000 in
theorem sameMapping_ref (u v : Value) (m : Mp) (w : World) (hu : IsMp (Lt w.heap.size) w u m) (hv : IsMp (Lt w.heap.size) w v m) (hb : m.data.length ≤ 1000 ∧ m.kinds.length ≤ 1000) :
    Calls Tryz.prog 32 #[u, v] w fun e w' => e = .returned (.bool true) ∧ Below w.heap.size w w' := by
  obtain ⟨du, ku, rfl, hf, h1, h2⟩ := hu
  obtain ⟨dv, kv, rfl, _, h3, h4⟩ := hv
  obtain ⟨A1, c1, rfl, _, _, h1⟩ := h1.open_
  obtain ⟨A2, c2, rfl, _, _, h2⟩ := h2.open_
  obtain ⟨A3, c3, rfl, _, _, h3⟩ := h3.open_
  obtain ⟨A4, c4, rfl, _, _, h4⟩ := h4.open_
  have HD := Lib.hid hb
  unfold mpV
  obtain ⟨zs, hzs⟩ : ∃ z, (m.sep.toNat : Int) = z := ⟨_, rfl⟩
  rw [hzs]
  have b1 := bone w (.cells #[.int .i64 m.cas, .int .i64 m.act, .int .i64 m.res, .int .i64 m.life, .int .i64 m.time, .slice A1 m.data.length c1, .slice A2 m.kinds.length c2, .int .u8 zs] 33)
  have k1 := Blk.new w 33 #[.int .i64 m.cas, .int .i64 m.act, .int .i64 m.res, .int .i64 m.life, .int .i64 m.time, .slice A1 m.data.length c1, .slice A2 m.kinds.length c2, .int .u8 zs]
  go_enter Tryz.func32, Tryz.ntmps32
  go_upto_region 1 with fail
  obtain ⟨w1, hw1⟩ : ∃ w1, w.alloc (.cells #[.int .i64 m.cas, .int .i64 m.act, .int .i64 m.res, .int .i64 m.life, .int .i64 m.time, .slice A1 m.data.length c1, .slice A2 m.kinds.length c2, .int .u8 zs] 33) = w1 := ⟨_, rfl⟩
  have z1 : w1.heap.size = w.heap.size + 1 := by rw [← hw1]; simp
  rw [hw1] at b1 k1 ⊢
  clear hw1
  have b2 := bone w1 (.cells #[.int .i64 m.cas, .int .i64 m.act, .int .i64 m.res, .int .i64 m.life, .int .i64 m.time, .slice A3 m.data.length c3, .slice A4 m.kinds.length c4, .int .u8 zs] 33)
  have k2 := Blk.new w1 33 #[.int .i64 m.cas, .int .i64 m.act, .int .i64 m.res, .int .i64 m.life, .int .i64 m.time, .slice A3 m.data.length c3, .slice A4 m.kinds.length c4, .int .u8 zs]
  obtain ⟨w2, hw2⟩ : ∃ w2, w1.alloc (.cells #[.int .i64 m.cas, .int .i64 m.act, .int .i64 m.res, .int .i64 m.life, .int .i64 m.time, .slice A3 m.data.length c3, .slice A4 m.kinds.length c4, .int .u8 zs] 33) = w2 := ⟨_, rfl⟩
  rw [hw2] at b2 k2 ⊢
  clear hw2
  have k1 := k1.now b2
  have HB := Lib.hid (bthen b1 b2)
  have HP1L := k1.lt
  rw [z1] at k2
  have HP2L := k2.lt
  obtain ⟨a0, a1, a2, a3, a4, a5, a6, a7⟩ := k1.c8m
  obtain ⟨e0, e1, e2, e3, e4, e5, e6, e7⟩ := k2.c8m
  have HA := Lib.hid (h1.now HB.out)
  have HK := Lib.hid (h2.now HB.out)
  have HC := Lib.hid (h3.now HB.out)
  have HL := Lib.hid (h4.now HB.out)
  have n1 : (m.cas != m.cas) = false := by simp
  clear h1 h2 h3 h4 b1 b2 k1 k2 z1 n1 hzs
  have HPL : Hid (w.heap.size < w2.heap.size ∧ w.heap.size + 1 < w2.heap.size) := Lib.hid ⟨HP1L, HP2L⟩
  obtain ⟨p1, hp1⟩ : ∃ p1, w.heap.size = p1 := ⟨_, rfl⟩
  rw [hp1] at HB HPL a0 a1 a2 a3 a4 a5 a6 a7 e0 e1 e2 e3 e4 e5 e6 e7 ⊢
  have HP1 := Lib.hid hp1
  clear HP1L HP2L
  clear hp1
  obtain ⟨p2, hp2⟩ : ∃ p2, p1 + 1 = p2 := ⟨_, rfl⟩
  rw [hp2] at HPL e0 e1 e2 e3 e4 e5 e6 e7 ⊢
  clear hp2
  go_wp2_with fail
  go_loopw [5] (fun iv wr => ∃ k : Nat, iv = .int .i64 (k : Int) ∧ k ≤ m.data.length ∧ Hid (Below w2.heap.size w2 wr)) (fun iv _ => m.data.length - (intOf iv).toNat)
  case atStart => exact ⟨0, rfl, Nat.zero_le _, Lib.hid (Below.refl _ _)⟩
  case round =>
    obtain ⟨k, rfl, hk, HBk⟩ := hrel
    have hb1 : p1 < w2.heap.size := HPL.out.1
    have hb2 : p2 < w2.heap.size := HPL.out.2
    have r5 := (HBk.out.cell (p := ⟨p1, 5, none⟩) hb1).trans a5
    have r6 := (HBk.out.cell (p := ⟨p1, 6, none⟩) hb1).trans a6
    have t5 := (HBk.out.cell (p := ⟨p2, 5, none⟩) hb2).trans e5
    have t6 := (HBk.out.cell (p := ⟨p2, 6, none⟩) hb2).trans e6
    by_cases hlt : k < m.data.length
    · obtain ⟨ba, oa, x, rfl, hDa, hx, _, hca⟩ := SlI.at_ HA.out hlt
      obtain ⟨bb, ob, y, rfl, hDb, hy, _, hcb⟩ := SlI.at_ HC.out hlt
      rw [hx] at hy
      injection hy with hy
      subst hy
      have q5 : ∀ n, (wr.drewN n).cell? ⟨p1, 5, none⟩ = _ := fun n => r5
      have ta := (HBk.out.cell (p := ⟨ba, oa + k, none⟩) hDa).trans hca
      have tb := (HBk.out.cell (p := ⟨bb, ob + k, none⟩) hDb).trans hcb
      have i0 : (0 : Int) ≤ (k : Int) := by omega
      have i1 : (k : Int) < (m.data.length : Int) := by omega
      clear hx hca hcb q5
      go_upto_region 6 with fail
      go_quiet (fail)
      go_wp2_with fail
      go_roundw
      case rel => exact ⟨k + 1, by go_num, by omega, Lib.hid (bdrawn HBk.out _)⟩
      case measure => simp [intOf]; omega
    · obtain ⟨wo, hwo⟩ : ∃ wo, wr = wo := ⟨_, rfl⟩
      rw [hwo] at HBk r5 r6 t5 t6 ⊢
      clear hwo
      have hkl : ¬ (k : Int) < (m.data.length : Int) := by omega
      go_wp2_with fail
      clear r5 r6 t5 t6 hkl hlt hk
      go_loopw [6] (fun iv wy => ∃ k : Nat, iv = .int .i64 (k : Int) ∧ k ≤ m.kinds.length ∧ Hid (Below w2.heap.size w2 wy)) (fun iv _ => m.kinds.length - (intOf iv).toNat)
      case atStart => exact ⟨0, rfl, Nat.zero_le _, HBk⟩
      case round =>
        obtain ⟨j, rfl, hj, HBj⟩ := hrel
        have r5 := (HBj.out.cell (p := ⟨p1, 5, none⟩) hb1).trans a5
        have r6 := (HBj.out.cell (p := ⟨p1, 6, none⟩) hb1).trans a6
        have t5 := (HBj.out.cell (p := ⟨p2, 5, none⟩) hb2).trans e5
        have t6 := (HBj.out.cell (p := ⟨p2, 6, none⟩) hb2).trans e6
        by_cases hlt : j < m.kinds.length
        · obtain ⟨ba, oa, x, rfl, hDa, hx, _, hca⟩ := SlI.at_ HK.out hlt
          obtain ⟨bb, ob, y, rfl, hDb, hy, _, hcb⟩ := SlI.at_ HL.out hlt
          rw [hx] at hy
          injection hy with hy
          subst hy
          have ta := (HBj.out.cell (p := ⟨ba, oa + j, none⟩) hDa).trans hca
          have tb := (HBj.out.cell (p := ⟨bb, ob + j, none⟩) hDb).trans hcb
          have i0 : (0 : Int) ≤ (j : Int) := by omega
          have i1 : (j : Int) < (m.kinds.length : Int) := by omega
          clear hx hca hcb
          go_upto_region 11 with fail
          go_quiet (fail)
          go_wp2_with fail
          go_roundw
          case rel => exact ⟨j + 1, by go_num, by omega, Lib.hid (bdrawn HBj.out _)⟩
          case measure => simp [intOf]; omega
        · have hkl : ¬ (j : Int) < (m.kinds.length : Int) := by omega
          go_wp2_with fail
          go_ret
          exact ⟨rfl, by rw [HP1.out]; exact HB.out.trans (HBj.out.mono (Nat.le_of_lt HPL.out.1))⟩
end Go.Proofs.YtoalecalahkblaaGreatDoor

namespace Go.Proofs.YtoalecalahkblaaGreatDoor
open Go.ChangeShapes Go.WideShapes Go.ChangeAt Go.RowKit Go.Deep
section
variable {H : Type} {enc : TypeId × Value → H} {P : Program} {w : World} {base : Nat} {spare : Nat → Bool} {held : Bool}
end
theorem readStrs : Tryz.prog.readableRec 51 = true := by kernel_rfl
theorem rowStrs : 51 < Tryz.prog.types.size := of_decide_eq_true (by kernel_rfl)
section
variable {H : Type} {enc : TypeId × Value → H} {w : World} {base : Nat} {spare : Nat → Bool} {held : Bool}
set_option maxRecDepth 100000 in
theorem strs_of {r : Go.Reach} {b0 : Nat} {v : Value} {d : DataW H} {p : List MemPlace} (hv : Value.okWide Tryz.prog w r b0 51 v) (h : DataW.Trod enc Tryz.prog w base spare held 51 v d p) : ∃ ls : List Bt, SlP (Lt w.heap.size) w v ls := by
  obtain ⟨_, _, hy⟩ := slice_of Tryz.underlying51 hv h
  exact strsI_of hy
end
end Go.Proofs.YtoalecalahkblaaGreatDoor

set_option linter.all false
namespace Go.Proofs.YtoalecalahkblaaGreatDoor
open Go.RowKit
theorem gfat_any (s : ByteArray) (w : World) : Calls Tryz.prog 29 #[.string s] w fun e w' => e = .returned (.bool (fatB s.data.toList)) ∧ w = w' := by
  have HE : Hid (fatB s.data.toList = decide ((300 : Int) < (s.size : Int))) := by
    show _ = _
    unfold fatB
    have : s.data.toList.length = s.size := by simp
    exact decide_eq_decide.2 (by omega)
  obtain ⟨q, hq⟩ : ∃ q, decide ((300 : Int) < (s.size : Int)) = q := ⟨_, rfl⟩
  rw [hq] at HE
  go_enter Tryz.func29, Tryz.ntmps29
  go_wp2_with fail
  go_ret
  exact ⟨ret_bool HE.out.symm, rfl⟩
theorem enters_gfat : ∀ args w, (callFunc 29 args).run Tryz.prog w = .ok (.enter 29 args) w := enters_of Tryz.func29 (by kernel_rfl) rfl
theorem gfats_any (v : Value) (r : List Bt) (w : World) (h : SlP (Lt w.heap.size) w v r) :
    Calls Tryz.prog 28 #[v, .func (.func 29) #[] #[]] w fun e w' => e = .returned (.bool (r.any fatB)) ∧ Below w.heap.size w w' := by
  have hf : AsksF 29 #[] RStr w (r.map bsOf) (fun s => fatB s.data.toList) := by
    intro x u W hx hr _
    obtain ⟨h1, _⟩ := hr
    injection h1 with h1
    subst h1
    exact (gfat_any x W).mono fun e w' ⟨h1, h2⟩ => ⟨h1, h2 ▸ Below.refl _ _⟩
  have hc := contFS 29 #[] enters_gfat v (r.map bsOf) _ w h hf
  rw [List.any_map] at hc
  exact hc
theorem guess_small (cells : List Bt) : (guessE wds0 cells).1.data.length ≤ 1000 ∧ (guessE wds0 cells).1.kinds.length ≤ 1000 := by
  by_cases h : (guessE wds0 cells).2 = 0
  · have := guess_valid apart0 h
    unfold mapB at this
    simp only [Bool.and_eq_true, decide_eq_true_eq] at this
    omega
  · unfold guessE at h ⊢
    by_cases h1 : 40 < cells.length
    · rw [if_pos h1]; exact ⟨Nat.zero_le _, Nat.zero_le _⟩
    rw [if_neg h1] at h ⊢
    simp only at h ⊢
    by_cases h2 : findB wds0.cas cells < 0 ∨ findB wds0.act cells < 0 ∨ findB wds0.time cells < 0
    · rw [if_pos h2]; exact ⟨Nat.zero_le _, Nat.zero_le _⟩
    · rw [if_neg h2] at h; exact absurd rfl h
set_option maxHeartbeats 4000000 in
set_option maxRecDepth 100000 in
theorem importsGuesses_law (cells : List Bt) (v : Value) (w : World) (h : SlP (Lt w.heap.size) w v cells) (ha : AmbP w) :
    Calls Tryz.prog 7 #[v] w fun e w' => e = .returned (.bool true) ∧ Below w.heap.size w w' := by
  have HAW := Lib.hid (awake_any w ha)
  have HH := Lib.hid h
  have HFA := Lib.hid (fun W hW => gfats_any v cells W hW)
  have HGP := Lib.hid (fun W hW hs => guess_any v cells W hW hs)
  have HGR := Lib.hid (fun W hW hs => guess_ref v cells W hW hs)
  obtain ⟨A, c, rfl, _, _, _⟩ := h.open_
  have HSML := Lib.hid (guess_small cells)
  have HVAL := Lib.hid (fun hk => guess_valid apart0 (cells := cells) hk)
  generalize guessE wds0 cells = p at *
  obtain ⟨m, k⟩ := p
  obtain ⟨q, hq⟩ : ∃ q, cells.any fatB = q := ⟨_, rfl⟩
  rw [hq] at HFA
  have HQ := Lib.hid hq
  clear h ha hq
  go_enter Tryz.func7, Tryz.ntmps7
  go_wp2_with fail
  (with_reducible refine HAW.out.mono ?_)
  rintro _ w1 ⟨rfl, hb1⟩
  have HB1 := Lib.hid hb1
  have HF1 := Lib.hid (HFA.out w1 (HH.out.now hb1))
  clear hb1 HAW
  by_cases h60 : (60 : Int) < (cells.length : Int)
  · go_wp2_with fail
    go_ret
    exact ⟨rfl, HB1.out⟩
  go_wp2_with fail
  (with_reducible refine HF1.out.mono ?_)
  rintro _ w2 ⟨rfl, hb2⟩
  have HB2 := Lib.hid (bthen HB1.out hb2)
  clear hb2 HF1 HB1
  cases q with
  | true =>
    go_wp2_with fail
    go_ret
    exact ⟨rfl, HB2.out⟩
  | false =>
    have HS : Hid (∀ l ∈ cells, l.length ≤ 1000000) := Lib.hid fun l hl => by
      have h1 := List.any_eq_false.1 HQ.out l hl
      have h2 : decide (300 < l.length) ≠ true := h1
      have h3 : ¬ 300 < l.length := fun hh => h2 (decide_eq_true hh)
      omega
    have HG2 := Lib.hid (HGP.out w2 (HH.out.now HB2.out) HS.out)
    go_wp2_with fail
    (with_reducible refine HG2.out.mono ?_)
    rintro _ w3 ⟨u1, rfl, hm1, hb3⟩
    have HB3 := Lib.hid (bthen HB2.out hb3)
    obtain ⟨d1, k1, rfl, hf1, hd1, hk1⟩ := hm1
    obtain ⟨Ad, cd, rfl, _, _, hd1⟩ := hd1.open_
    obtain ⟨Ak, ck, rfl, _, _, hk1⟩ := hk1.open_
    have HM1 : Hid (IsMp (Lt w3.heap.size) w3 (mpV m (.slice Ad m.data.length cd) (.slice Ak m.kinds.length ck)) m) := Lib.hid ⟨_, _, rfl, hf1, hd1, hk1⟩
    have HG3 := Lib.hid (HGR.out)
    clear hb3 HG2 HB2 hf1 hd1 hk1
    unfold mpV at HM1 ⊢
    obtain ⟨z, hz⟩ : ∃ z, (m.sep.toNat : Int) = z := ⟨_, rfl⟩
    have HZ := Lib.hid hz
    rw [hz] at HM1 ⊢
    clear hz
    have hbA := bone w3 (.cells #[.int .i64 m.cas, .int .i64 m.act, .int .i64 m.res, .int .i64 m.life, .int .i64 m.time, .slice Ad m.data.length cd, .slice Ak m.kinds.length ck, .int .u8 z] 33)
    have hkA := Blk.new w3 33 #[.int .i64 m.cas, .int .i64 m.act, .int .i64 m.res, .int .i64 m.life, .int .i64 m.time, .slice Ad m.data.length cd, .slice Ak m.kinds.length ck, .int .u8 z]
    go_upto_region 6 with fail
    obtain ⟨w4, hw4⟩ : ∃ w4, w3.alloc (.cells #[.int .i64 m.cas, .int .i64 m.act, .int .i64 m.res, .int .i64 m.life, .int .i64 m.time, .slice Ad m.data.length cd, .slice Ak m.kinds.length ck, .int .u8 z] 33) = w4 := ⟨_, rfl⟩
    rw [hw4] at hbA hkA ⊢
    clear hw4
    have HB4 := Lib.hid (bthen HB3.out hbA)
    have HM4 := Lib.hid (HM1.out.now hbA)
    have HKA := Lib.hid hkA
    obtain ⟨ga, hga⟩ : ∃ ga, w3.heap.size = ga := ⟨_, rfl⟩
    rw [hga] at HKA ⊢
    clear hga hbA hkA HM1 HB3
    have HG4 := Lib.hid (HGR.out w4 (HH.out.now HB4.out) HS.out)
    go_wp2_with fail
    (with_reducible refine HG4.out.mono ?_)
    rintro _ w5 ⟨u2, rfl, hm2, hb5⟩
    have HB5 := Lib.hid (bthen HB4.out hb5)
    have HM5 := Lib.hid (HM4.out.now hb5)
    have HKA5 := Lib.hid (HKA.out.now hb5)
    obtain ⟨d2, k2, rfl, hf2, hd2, hk2⟩ := hm2
    obtain ⟨Ae, ce, rfl, _, _, hd2⟩ := hd2.open_
    obtain ⟨Al, cl, rfl, _, _, hk2⟩ := hk2.open_
    have HN5 : Hid (IsMp (Lt w5.heap.size) w5 (mpV m (.slice Ae m.data.length ce) (.slice Al m.kinds.length cl)) m) := Lib.hid ⟨_, _, rfl, hf2, hd2, hk2⟩
    clear hb5 HG4 HB4 HM4 HKA hf2 hd2 hk2
    unfold mpV at HN5 ⊢
    rw [HZ.out] at HN5 ⊢
    have hbA := bone w5 (.cells #[.int .i64 m.cas, .int .i64 m.act, .int .i64 m.res, .int .i64 m.life, .int .i64 m.time, .slice Ae m.data.length ce, .slice Al m.kinds.length cl, .int .u8 z] 33)
    have hkB := Blk.new w5 33 #[.int .i64 m.cas, .int .i64 m.act, .int .i64 m.res, .int .i64 m.life, .int .i64 m.time, .slice Ae m.data.length ce, .slice Al m.kinds.length cl, .int .u8 z]
    go_upto_region 7 with fail
    obtain ⟨w6, hw6⟩ : ∃ w6, w5.alloc (.cells #[.int .i64 m.cas, .int .i64 m.act, .int .i64 m.res, .int .i64 m.life, .int .i64 m.time, .slice Ae m.data.length ce, .slice Al m.kinds.length cl, .int .u8 z] 33) = w6 := ⟨_, rfl⟩
    rw [hw6] at hbA hkB ⊢
    clear hw6
    have HB6 := Lib.hid (bthen HB5.out hbA)
    have HM6 := Lib.hid (HM5.out.now hbA)
    have HN6 := Lib.hid (HN5.out.now hbA)
    have HKA6 := Lib.hid (HKA5.out.now hbA)
    have HKB6 := Lib.hid hkB
    obtain ⟨gb, hgb⟩ : ∃ gb, w5.heap.size = gb := ⟨_, rfl⟩
    rw [hgb] at HKB6 ⊢
    clear hgb hbA hkB HM5 HN5 HB5 HKA5
    obtain ⟨a0, a1, a2, a3, a4, a5, a6, a7⟩ := HKA6.out.c8m
    obtain ⟨e0, e1, e2, e3, e4, e5, e6, e7⟩ := HKB6.out.c8m
    have HSM := Lib.hid (sameMapping_ref _ _ m w6 HM6.out HN6.out HSML.out)
    go_wp2_with fail
    (with_reducible refine HSM.out.mono ?_)
    rintro _ w7 ⟨rfl, hb7⟩
    have HB7 := Lib.hid (bthen HB6.out hb7)
    have HM7 := Lib.hid (HM6.out.now hb7)
    obtain ⟨b0, b1, b2, b3, b4, b5, b6, b7⟩ := (HKA6.out.now hb7).c8m
    clear hb7 HSM HB6 HM6 HN6 HKB6 e0 e1 e2 e3 e4 e5 e6 e7 a0 a1 a2 a3 a4 a5 a6 a7
    by_cases hk0 : k = 0
    · subst hk0
      have HVM := Lib.hid (valid_any _ m w7 HM7.out (by have := HSML.out.1; show m.data.length ≤ _; have : m.data.length ≤ 1000 := HSML.out.1; omega))
      rw [show mapB m = true from HVAL.out rfl] at HVM
      go_wp2_with fail
      (with_reducible refine HVM.out.mono ?_)
      rintro _ w8 ⟨rfl, hb8⟩
      have HB8 := Lib.hid (bthen HB7.out hb8)
      clear hb8
      go_wp2_with fail
      go_ret
      exact ⟨rfl, HB8.out⟩
    · have x1 : (k != 0) = true := by simpa using hk0
      go_wp2_with fail
      go_ret
      exact ⟨rfl, HB7.out⟩
end Go.Proofs.YtoalecalahkblaaGreatDoor
