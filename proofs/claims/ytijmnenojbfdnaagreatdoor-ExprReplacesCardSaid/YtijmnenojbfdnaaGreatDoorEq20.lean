/- Texts of this seat, merged. -/
import Derived.Lib.Builder
import Derived.Lib.AppendStr
import Derived.Lib.UnsafeStr
import Derived.Lib.FrozenHead2
import Derived.Lib.OthersKept
import Derived.Laws.Externs
import Derived.Shelf.Strings.Builder1
import Derived.Shelf.Small.Bits
import Derived.Shelf.Small.Wraps
import Derived.Shelf.Strings.BuilderF
import Derived.Shelf.Strings.BuilderK
import Derived.Shelf.Strconv.Atoi
import Derived.Shelf.Strconv.Itoa0
import Derived.Shelf.Strconv.Itoa1
import Derived.Shelf.LaysM
import Derived.Shelf.Strconv.Itoa2
import Derived.Shelf.Strconv.Itoa3
import Derived.Shelf.Strconv.AtoiErrFast
import Derived.Shelf.Strconv.ParseIntEmpty
import Derived.Shelf.Strconv.AtoiFail
import Derived.Shelf.Strconv.Clone
import Derived.Shelf.Strconv.SyntaxError
import Derived.Shelf.LaysC
import Derived.Shelf.Strconv.ToError
import Derived.Shelf.Strconv.Lower
import Derived.Shelf.Strconv.ParseUint10
import Derived.Shelf.Strconv.ParseUint10Empty
import Derived.Shelf.Strconv.ParseUint10Any
import Derived.Shelf.Strconv.ParseInt10
import Derived.Shelf.Strconv.AtoiLong
import Derived.Shelf.Strconv.AtoiInnerAll
import Derived.Shelf.Strconv.RangeError
import Derived.Shelf.Strconv.ToErrorRange
import Derived.Shelf.Strconv.AtoiAll
import Derived.Shelf.Strconv.ErrVarAll
import Derived.Shelf.Strings.Search1
import Derived.Shelf.Strings.Search2
import Derived.Shelf.Strings.Search3
import Derived.Shelf.Strings.Shaped
import Derived.Shelf.Sort.Plain
import Derived.Shelf.Strings.Prefix
import Derived.Shelf.Strings.BuilderCap
import Derived.Shelf.Slices.Turned
import Derived.Shelf.Slices.Equal
import Derived.Ground.Names2Prog
import Derived.Shelf.Slices.Clone
import Derived.Shelf.Slices.CompactS
import Derived.Shelf.Slices.Cells
import Derived.Shelf.Slices.In.SortNone
import Derived.Shelf.Slices.Empties2
import Derived.Test.YtijmnenojbfdnaaGreatDoorProg
import Derived.Maps.AppendAt
import Derived.Deep.AppendLies
import Derived.RegionTactic
import Derived.OwnWalk
import Derived.WalkKit
import Derived.WalkSpells
import Derived.WalkLawsBesides
import Derived.Lib.Hide
import Derived.Deep.Draws
import Derived.Deep.OwnRows
import Derived.Test.YtijmnenojbfdnaaGreatDoorEq01
import Derived.Test.YtijmnenojbfdnaaGreatDoorEq02
import Derived.Test.YtijmnenojbfdnaaGreatDoorEq03
import Derived.Test.YtijmnenojbfdnaaGreatDoorEq04
import Derived.Test.YtijmnenojbfdnaaGreatDoorEq05
import Derived.Test.YtijmnenojbfdnaaGreatDoorEq06
import Derived.Test.YtijmnenojbfdnaaGreatDoorEq07
import Derived.Test.YtijmnenojbfdnaaGreatDoorEq08
import Derived.Test.YtijmnenojbfdnaaGreatDoorEq09
import Derived.Test.YtijmnenojbfdnaaGreatDoorEq10
import Derived.Test.YtijmnenojbfdnaaGreatDoorEq11
import Derived.Test.YtijmnenojbfdnaaGreatDoorEq12
import Derived.Test.YtijmnenojbfdnaaGreatDoorEq13
import Derived.Test.YtijmnenojbfdnaaGreatDoorEq14
import Derived.Test.YtijmnenojbfdnaaGreatDoorEq15
import Derived.Test.YtijmnenojbfdnaaGreatDoorEq16
import Derived.Test.YtijmnenojbfdnaaGreatDoorEq17
import Derived.Test.YtijmnenojbfdnaaGreatDoorEq18
import Derived.Test.YtijmnenojbfdnaaGreatDoorEq19
set_option linter.unusedSimpArgs false
set_option linter.unusedVariables false
namespace Go.Proofs.YtijmnenojbfdnaaGreatDoor
open Go.RowKit
theorem tokOk1 : TokOk toks1 := ⟨by decide, by decide, by unfold maxLen; decide, fun i t h hk => by
  have hi : i < toks1.length := (List.getElem?_eq_some_iff.1 h).1
  rcases Nat.lt_or_ge (i + 1) toks1.length with h' | h'
  · exact h'
  · exfalso
    have e : i = 6 := by have : toks1.length = 7 := rfl; omega
    subst e
    injection h with h
    exact hk (by rw [← h])⟩
theorem tokOk2 : TokOk toks2 := ⟨by decide, by decide, by unfold maxLen; decide, fun i t h hk => by
  have hi : i < toks2.length := (List.getElem?_eq_some_iff.1 h).1
  rcases Nat.lt_or_ge (i + 1) toks2.length with h' | h'
  · exact h'
  · exfalso
    have e : i = 14 := by have : toks2.length = 15 := rfl; omega
    subst e
    injection h with h
    exact hk (by rw [← h])⟩
set_option maxHeartbeats 2000000 in
set_option maxRecDepth 100000 in
theorem parse_any (s : ByteArray) (w : World) (hs : s.size ≤ 16384) (F f : Nat) (L : List Tok) (x : Ex) (i : Nat) (t : Tok) (hF : F ≤ 100) (hlex : lexB F s 1 = some L) (hL : TokOk L) (h0 : 0 < L.length) (hf : f ≤ 1000) (hx : exB L f 0 1 = some (x, i)) (ht : L[i]? = some t) (hk : t.kind = 5) (hv : validX x = true) :
    Calls Tryz.prog 35 #[.string s] w fun e w' => ∃ m v, e = .returned (.tuple #[v, .agg #[.int .i64 0, .int .i64 0], .int .i64 0]) ∧ IsEx m (Lt w'.heap.size) w' v x ∧ Below w.heap.size w w' := by
  have HTK := Lib.hid (fun W => tokens_any s W hs F L hF hlex)
  have hex := expr_any L hL f hf
  have HEX := Lib.hid hex
  have HX := Lib.hid hx
  have HT := Lib.hid ht
  have HK := Lib.hid hk
  have HV := Lib.hid hv
  clear hlex hex hx ht hk hv
  have hLL := hL.len
  have hb1 := bbox (bone w (.cells #[.int .i64 0, .int .i64 0, .int .i64 0, .string ⟨#[]⟩, .string ⟨#[]⟩, .slice none 0 0] 28)) (.cells #[.int .i64 0, .int .i64 0] 74)
  have hR1 := (Blk.new w 28 #[.int .i64 0, .int .i64 0, .int .i64 0, .string ⟨#[]⟩, .string ⟨#[]⟩, .slice none 0 0]).alloc (.cells #[.int .i64 0, .int .i64 0] 74)
  have hP1 := Blk.new_at (t := 74) (cs := #[.int .i64 0, .int .i64 0]) (w := w.alloc (.cells #[.int .i64 0, .int .i64 0, .int .i64 0, .string ⟨#[]⟩, .string ⟨#[]⟩, .slice none 0 0] 28)) (s := w.heap.size + 1) (World.size_alloc _ _)
  go_enter Tryz.func35, Tryz.ntmps35
  go_upto_region 1 with fail
  generalize hw1 : ((w.alloc (.cells #[.int .i64 0, .int .i64 0, .int .i64 0, .string ⟨#[]⟩, .string ⟨#[]⟩, .slice none 0 0] 28)).alloc (.cells #[.int .i64 0, .int .i64 0] 74)) = w1 at *
  clear hw1
  go_wp2_with fail
  refine (HTK.out w1).mono ?_
  rintro e w2 ⟨A, c, rfl, hl2, hb2⟩
  clear HTK
  have hbw2 := bthen hb1 hb2
  have hR2 := hR1.now hb2
  have hP2 := hP1.now hb2
  have hsz2 := Nat.le_trans hP1.lt hb2.size
  clear hb1 hb2 hR1 hP1
  have hb3 := bbox (bone w2 (.cells #[.int .i64 0, .int .i64 0] 74)) (.cells #[.slice A L.length c, .int .i64 0, .bool false] 114)
  have hsz3 : (w2.alloc (.cells #[.int .i64 0, .int .i64 0] 74)).heap.size = w2.heap.size + 1 := World.size_alloc _ _
  have hG4 := Blk.new_at (t := 114) (cs := #[.slice A L.length c, .int .i64 0, .bool false]) (w := w2.alloc (.cells #[.int .i64 0, .int .i64 0] 74)) (s := w2.heap.size + 1) hsz3
  have hR4 := hR2.now hb3
  have hP4 := hP2.now hb3
  have hl4 := Sl.below hl2 RTok.kept hb3 (Nat.le_succ _)
  have hbw4 := bthen hbw2 hb3
  have HS3 := Lib.hid hsz3
  clear hsz3
  go_upto_region 5 with fail
  have HS4 : Hid (((w2.alloc (.cells #[.int .i64 0, .int .i64 0] 74)).alloc (.cells #[.slice A L.length c, .int .i64 0, .bool false] 114)).heap.size = w2.heap.size + 2) := by show _ = _; rw [World.size_alloc, HS3.out]
  generalize hw4 : ((w2.alloc (.cells #[.int .i64 0, .int .i64 0] 74)).alloc (.cells #[.slice A L.length c, .int .i64 0, .bool false] 114)) = w4 at *
  have hs4 : w2.heap.size + 2 ≤ w4.heap.size := Nat.le_of_eq HS4.out.symm
  clear hw4 HS3 HS4 hR2 hP2 hl2 hbw2 hb3
  have hca := HEX.out (w2.heap.size + 1) A c 0 1 (x, i) (w2.heap.size + 1) w4 (Nat.le_refl _) (by omega) hl4 hG4 h0 (by omega) HX.out
  have HCA := Lib.hid hca
  clear hca HEX HX
  go_wp2_with fail
  refine HCA.out.mono ?_
  rintro e w5 ⟨m, xv, rfl, hx5, hP5, hi5, hg45⟩
  have hR5 := hR4.grown hg45 (fun e => by injection e with e; omega)
  have hP5' := hP4.grown hg45 (fun e => by injection e with e; omega)
  have hl5 := Sl.below hl4 RTok.kept (below_of_grown hg45 (show w2.heap.size + 1 ≤ w4.heap.size by omega) (fun q e => by injection e with e; omega)) (Nat.le_refl _)
  have hbw5 : Below w.heap.size w w5 := hbw4.trans (below_of_grown hg45 (show w.heap.size ≤ w4.heap.size by omega) (fun q e => by injection e with e; omega))
  have hs5 := Nat.le_trans hs4 hg45.size
  obtain ⟨lv', rfl, _, Ax, cx, rfl⟩ := hx5.cells
  dsimp only at hP5 hi5 hx5
  clear hR4 hP4 hl4 hbw4 hs4 hg45 HCA hG4
  have hb6 := bone w5 (.cells #[.int .i64 x.op, .int .i64 x.v.kind, .int .i64 x.v.n, .string x.v.s, .string x.s, .slice Ax x.l.length cx] 28)
  have hN6 := Blk.new w5 28 #[.int .i64 x.op, .int .i64 x.v.kind, .int .i64 x.v.n, .string x.v.s, .string x.s, .slice Ax x.l.length cx]
  have hR6 := hR5.now hb6
  have hP6 := hP5'.now hb6
  have hG6 := IsPs.now hP5 hb6
  have hx6 := hx5.grownX (Nat.le_refl _) (grown_of_below hb6 (some (w2.heap.size + 1)))
  have hl6 := Sl.below hl5 RTok.kept (hb6.mono (by omega)) (Nat.le_refl _)
  have hbw6 := bthen hbw5 hb6
  go_upto_region 6 with fail
  generalize hw6 : w5.alloc (.cells #[.int .i64 x.op, .int .i64 x.v.kind, .int .i64 x.v.n, .string x.v.s, .string x.s, .slice Ax x.l.length cx] 28) = w6 at *
  have hN6lt := hN6.lt
  have hs6 : w2.heap.size + 2 ≤ w5.heap.size := hs5
  generalize hk5 : w5.heap.size = k5 at *
  clear hw6 hk5 hR5 hP5' hP5 hx5 hl5 hbw5 hb6 hs5
  obtain ⟨b, o, u, rfl, hbg, hu, t0, t1, t2, t3, t4⟩ := SlTk.at_ hl6 hi5
  have hut : u = t := by have := hu.symm.trans HT.out; injection this
  have d5 : (u.kind != 5) = false := by rw [hut, HK.out]; rfl
  have i1 : (0 : Int) ≤ (i : Int) := by omega
  have i2 : (i : Int) < (L.length : Int) := by omega
  obtain ⟨c0, c1, c2⟩ := (show Blk w6 (w2.heap.size + 1) 114 #[.slice (some ⟨b, o, none⟩) L.length c, .int .i64 (i : Int), .bool false] from hG6).c3
  clear hut hu HT HK hl6
  go_upto_region 7 with fail
  have hb7 := bone w6 (.cells #[.int .i64 u.kind, .string u.text, .int .i64 u.n, .int .i64 1, .int .i64 u.col] 117)
  have hT7 := Blk.new w6 117 #[.int .i64 u.kind, .string u.text, .int .i64 u.n, .int .i64 1, .int .i64 u.col]
  have hN7 := hN6.now hb7
  have hR7 := hR6.now hb7
  have hP7 := hP6.now hb7
  have hG7 := IsPs.now hG6 hb7
  have hx7 := hx6.grownX (Nat.le_refl _) (grown_of_below hb7 (some (w2.heap.size + 1)))
  have hbw7 := bthen hbw6 hb7
  generalize hw7 : w6.alloc (.cells #[.int .i64 u.kind, .string u.text, .int .i64 u.n, .int .i64 1, .int .i64 u.col] 117) = w7 at *
  clear hw7 hN6 hR6 hP6 hG6 hx6 hbw6 hb7 t0 t1 t2 t3 t4 c0 c1 c2
  obtain ⟨t0, t1, t2, t3, t4⟩ := hT7.c5
  obtain ⟨n0, n1, n2, n3, n4, n5⟩ := hN7.c6
  obtain ⟨c0, c1, c2⟩ := (show Blk w7 (w2.heap.size + 1) 114 #[.slice (some ⟨b, o, none⟩) L.length c, .int .i64 (i : Int), .bool false] from hG7).c3
  have hval := validX_any m x _ w7 (hx7.keepD (fun _ hb => hb.2) (fun _ _ => rfl))
  rw [HV.out] at hval
  have HVC := Lib.hid hval
  clear hval HV
  go_wp2_with fail
  refine HVC.out.mono ?_
  rintro e w8 ⟨rfl, hb8⟩
  have hN8 := hN7.now hb8
  have hR8 := hR7.now hb8
  have hP8 := hP7.now hb8
  have hx8 := hx7.grownX (Nat.le_refl _) (grown_of_below hb8 (some (w2.heap.size + 1)))
  have hbw8 := bthen hbw7 hb8
  clear hN7 hR7 hP7 hx7 hbw7 hb8 HVC t0 t1 t2 t3 t4 n0 n1 n2 n3 n4 n5 c0 c1 c2 hT7 hG7
  obtain ⟨n0, n1, n2, n3, n4, n5⟩ := hN8.c6
  obtain ⟨r0, r1, r2, r3, r4, r5⟩ := hR8.c6
  have f0 := hR8.frozen 0
  have f1 := hR8.frozen 1
  have f2 := hR8.frozen 2
  have f3 := hR8.frozen 3
  have f4 := hR8.frozen 4
  have f5 := hR8.frozen 5
  have hP9 := Blk.far6 hP8 (show w.heap.size + 1 ≠ w.heap.size by omega) (.int .i64 x.op) (.int .i64 x.v.kind) (.int .i64 x.v.n) (.string x.v.s) (.string x.s) (.slice Ax x.l.length cx)
  obtain ⟨p0, p1⟩ := hP9.c2
  have g0 := hP9.frozen 0
  have g1 := hP9.frozen 1
  go_wp2_with fail
  have hR9 := ((hR8.set6' (.int .i64 x.op) (.int .i64 x.v.kind) (.int .i64 x.v.n) (.string x.v.s) (.string x.s) (.slice Ax x.l.length cx)).far (p := ⟨w.heap.size + 1, 0, none⟩) (show w.heap.size ≠ w.heap.size + 1 by omega) (.int .i64 0)).far (p := ⟨w.heap.size + 1, 1, none⟩) (show w.heap.size ≠ w.heap.size + 1 by omega) (.int .i64 0)
  have hPA := (hP9.set_ 0 (.int .i64 0)).set_ 1 (.int .i64 0)
  obtain ⟨s0, s1, s2, s3, s4, s5⟩ := hR9.c6
  obtain ⟨v0, v1⟩ := hPA.c2
  have hxA := ((hx8.far6X (show w.heap.size ≤ w2.heap.size + 1 by omega) (.int .i64 x.op) (.int .i64 x.v.kind) (.int .i64 x.v.n) (.string x.v.s) (.string x.s) (.slice Ax x.l.length cx)).farX (p := ⟨w.heap.size + 1, 0, none⟩) (show w.heap.size + 1 ≤ w2.heap.size + 1 by omega) (.int .i64 0)).farX (p := ⟨w.heap.size + 1, 1, none⟩) (show w.heap.size + 1 ≤ w2.heap.size + 1 by omega) (.int .i64 0)
  refine bodyPost_ret (v := .tuple #[.agg #[.int .i64 x.op, .int .i64 x.v.kind, .int .i64 x.v.n, .string x.v.s, .string x.s, .slice Ax x.l.length cx], .agg #[.int .i64 0, .int .i64 0], .int .i64 0]) (by simp [results, Tryz.results35, go_sem, s0, s1, s2, s3, s4, s5, v0, v1]) rfl ?_
  exact ⟨m, _, rfl, hxA.keepD (fun _ hb => hb.2) (fun _ _ => rfl), ((((((((hbw8.setCell (p := ⟨w.heap.size, 0, none⟩) (Nat.le_refl _) _).setCell (p := ⟨w.heap.size, 1, none⟩) (Nat.le_refl _) _).setCell (p := ⟨w.heap.size, 2, none⟩) (Nat.le_refl _) _).setCell (p := ⟨w.heap.size, 3, none⟩) (Nat.le_refl _) _).setCell (p := ⟨w.heap.size, 4, none⟩) (Nat.le_refl _) _).setCell (p := ⟨w.heap.size, 5, none⟩) (Nat.le_refl _) _).setCell (p := ⟨w.heap.size + 1, 0, none⟩) (Nat.le_succ _) _).setCell (p := ⟨w.heap.size + 1, 1, none⟩) (Nat.le_succ _) _)⟩
end Go.Proofs.YtijmnenojbfdnaaGreatDoor

namespace Go.Proofs.YtijmnenojbfdnaaGreatDoor
open Go.RowKit
def WriteC (n : Nat) : Prop := ∀ (u : Value) (x : Ex) (asks : Nat) (w : World) (B b : Nat) (l : List UInt8), asks ≤ 9 → okX x = true → Bld w B b l → B ≤ w.heap.size → IsEx n (Lt B) w u x → (∀ W, Below B w W → Amb W) →
  l.length + (txB (n + 1) x asks).length ≤ 100000000 →
  Calls Tryz.prog 50 #[.pointer (some ⟨b, 0, none⟩), u, .int .i64 (asks : Int)] w fun e w' => e = .returned (.tuple #[]) ∧ Bld w' B b (l ++ txB (n + 1) x asks) ∧ Below B w w' ∧ Lib.OthersKept 5 (some b) w w'
def WriteB (n : Nat) : Prop := ∀ (u : Value) (x : Ex) (asks : Nat) (w : World) (B b : Nat) (l : List UInt8), ¬ levB x.op.toNat < asks → asks ≤ 9 → okX x = true → Bld w B b l → B ≤ w.heap.size → IsEx n (Lt B) w u x → (∀ W, Below B w W → Amb W) →
  l.length + (txB (n + 1) x asks).length ≤ 100000000 →
  Calls Tryz.prog 50 #[.pointer (some ⟨b, 0, none⟩), u, .int .i64 (asks : Int)] w fun e w' => e = .returned (.tuple #[]) ∧ Bld w' B b (l ++ txB (n + 1) x asks) ∧ Below B w w' ∧ Lib.OthersKept 5 (some b) w w'
theorem txB_br {n : Nat} {x : Ex} {asks : Nat} (h : levB x.op.toNat < asks) : txB (n + 1) x asks = [40] ++ txB (n + 1) x 0 ++ [41] := by
  unfold txB
  dsimp only
  rw [if_pos h, if_neg (show ¬ levB x.op.toNat < 0 by omega)]
theorem shape_op {x : Ex} (h : shapeX x = true) : 1 ≤ x.op ∧ x.op ≤ 13 := by
  unfold shapeX at h
  by_cases h1 : x.op = 1
  · omega
  · rw [if_neg h1] at h
    by_cases h2 : x.op = 2
    · omega
    · rw [if_neg h2] at h
      have h := (Bool.and_eq_true_iff.1 h).2
      by_cases h3 : x.op = 3
      · omega
      · rw [if_neg h3] at h
        by_cases h4 : 4 ≤ x.op ∧ x.op ≤ 11
        · omega
        · rw [if_neg h4] at h
          by_cases h5 : x.op = 12
          · omega
          · rw [if_neg h5] at h
            by_cases h6 : x.op = 13
            · omega
            · rw [if_neg h6] at h; cases h
theorem Bld.lt {w : World} {B b : Nat} {l : List UInt8} (h : Bld w B b l) : b < w.heap.size := by
  have go : ∀ p, Lib.BuilderAtF 92 5 B b p (Lib.byteCells l) w → b < w.heap.size := by
    rintro p ⟨_, v, hb, _, _⟩
    rcases Nat.lt_or_ge b w.heap.size with h' | h'
    · exact h'
    · rw [Array.getElem?_eq_none h'] at hb; cases hb
  exact h.elim (go _) (go _)
set_option maxHeartbeats 2000000 in
set_option maxRecDepth 100000 in
theorem write_br (n : Nat) (hB : WriteB n) : WriteC n := by
  intro u x asks w B b l ha hok hbd hBw hx hA hlen
  by_cases hlt : levB x.op.toNat < asks
  · have hsh : shapeX x = true := by
      rw [okX_eq, Bool.and_eq_true, Bool.and_eq_true] at hok
      exact hok.1.1
    have hop := shape_op hsh
    have h0 := hB u x 0
    rw [txB_br hlt] at hlen ⊢
    rw [List.length_append, List.length_append] at hlen
    obtain ⟨lv, rfl, _, Ax, cx, rfl⟩ := hx.cells
    have HL := Lib.hid (fun W => level_any x.op.toNat W (by omega))
    have HB0 := Lib.hid h0
    have HLN := Lib.hid hlen
    have hlv : (levB x.op.toNat : Int) < (asks : Int) := by omega
    have hto : ((x.op.toNat : Nat) : Int) = x.op := Int.toNat_of_nonneg (by omega)
    have HL2 : Hid (∀ W, Calls Tryz.prog 91 #[.int .i64 x.op] W fun e w' => e = .returned (.int .i64 (levB x.op.toNat : Int)) ∧ W = w') := by
      show ∀ W, _
      intro W
      have := HL.out W
      rw [hto] at this
      exact this
    have hb1 := bone w (.cells #[.int .i64 x.op, .int .i64 x.v.kind, .int .i64 x.v.n, .string x.v.s, .string x.s, .slice Ax x.l.length cx] 28)
    have hN1 := Blk.new w 28 #[.int .i64 x.op, .int .i64 x.v.kind, .int .i64 x.v.n, .string x.v.s, .string x.s, .slice Ax x.l.length cx]
    clear hsh hop h0 hlen HL hto hlt hB
    go_enter Tryz.func50, Tryz.ntmps50
    obtain ⟨n0, n1, n2, n3, n4, n5⟩ := hN1.c6
    go_wp2_with fail
    refine (HL2.out _).mono ?_
    rintro e w2 ⟨rfl, rfl⟩
    have hblt := Bld.lt hbd
    have hbd1 := hbd.now hb1
    have hx1 := hx.below (hb1.mono hBw) (Nat.le_refl _)
    have HA := Lib.hid hA
    clear hA
    have hBw1 := Nat.le_trans hBw hb1.size
    have hBb1 : Below B w (w.alloc (.cells #[.int .i64 x.op, .int .i64 x.v.kind, .int .i64 x.v.n, .string x.v.s, .string x.s, .slice Ax x.l.length cx] 28)) := hb1.mono hBw
    have HWB := Lib.hid (writeByte_any B b l 40 _ hbd1 (by have := HLN.out; omega) hBw1)
    go_wp2_with fail
    refine HWB.out.mono ?_
    rintro e w3 ⟨rfl, hbd3, hb3, hk3⟩
    have hN3 := Blk.others hN1 hk3 (fun e => by injection e with e; omega) (by decide)
    have hBb3 := hBb1.trans hb3
    have hx3 := hx1.below hb3 (Nat.le_refl _)
    have hBw3 := Nat.le_trans hBw1 hb3.size
    have hin := HB0.out w3 B b (l ++ [40]) (by omega) (by omega) hok hbd3 hBw3 hx3 (fun W h => HA.out W (hBb3.trans h)) (by have := HLN.out; rw [List.length_append]; simp at this ⊢; omega)
    have HIN := Lib.hid hin
    clear hin HB0 HWB HL2
    obtain ⟨n0, n1, n2, n3, n4, n5⟩ := hN3.c6
    go_wp2_with fail
    refine HIN.out.mono ?_
    rintro e w4 ⟨rfl, hbd4, hb4, hk4⟩
    have hBw4 := Nat.le_trans hBw3 hb4.size
    have HWB := Lib.hid (writeByte_any B b _ 41 _ hbd4 (by have := HLN.out; simp at this ⊢; omega) hBw4)
    clear HIN
    go_wp2_with fail
    refine HWB.out.mono ?_
    rintro e w5 ⟨rfl, hbd5, hb5, hk5⟩
    go_wp2_with fail
    refine bodyPost_ret (v := .tuple #[]) (by simp [results, Tryz.results50]) rfl ?_
    exact ⟨rfl, by simpa using hbd5, (hBb3.trans hb4).trans hb5, (((((Lib.OthersKept.refl _ _ _).alloc _).trans hk3).trans hk4).trans hk5)⟩
  · exact hB u x asks w B b l hlt ha hok hbd hBw hx hA hlen
end Go.Proofs.YtijmnenojbfdnaaGreatDoor

namespace Go.Proofs.YtijmnenojbfdnaaGreatDoor
open Go.RowKit
theorem othBelow {e : TypeId} {bo : Option Nat} {a w w' : World} (h : Lib.OthersKept e bo a w) (hb : Below w.heap.size w w') : Lib.OthersKept e bo a w' := fun k o hk hne hc => by
  have h1 := h k o hk hne hc
  have hlt : k < w.heap.size := by
    rcases Nat.lt_or_ge k w.heap.size with h' | h'
    · exact h'
    · rw [Array.getElem?_eq_none h'] at h1; cases h1
  exact (hb.block k hlt).trans h1
set_option maxHeartbeats 2000000 in
set_option maxRecDepth 100000 in
theorem write_var (n : Nat) (u : Value) (x : Ex) (asks : Nat) (w : World) (B b : Nat) (l : List UInt8) (h2 : x.op = 2) (hlt : ¬ levB x.op.toNat < asks) (hbd : Bld w B b l) (hBw : B ≤ w.heap.size) (hx : IsEx n (Lt B) w u x)
    (hlen : l.length + (txB (n + 1) x asks).length ≤ 100000000) :
    Calls Tryz.prog 50 #[.pointer (some ⟨b, 0, none⟩), u, .int .i64 (asks : Int)] w fun e w' => e = .returned (.tuple #[]) ∧ Bld w' B b (l ++ txB (n + 1) x asks) ∧ Below B w w' ∧ Lib.OthersKept 5 (some b) w w' := by
  have ht : txB (n + 1) x asks = x.s.data.toList := by
    unfold txB
    dsimp only
    rw [if_neg hlt, if_neg (by omega), if_pos h2]
  rw [ht] at hlen ⊢
  obtain ⟨lv, rfl, _, Ax, cx, rfl⟩ := hx.cells
  rw [h2] at hlt ⊢
  have hlv : ¬ (levB 2 : Int) < (asks : Int) := by have : levB (2 : Int).toNat = levB 2 := rfl; omega
  have HL2 := Lib.hid (fun W => level_any 2 W (by omega))
  have hb1 := bone w (.cells #[.int .i64 2, .int .i64 x.v.kind, .int .i64 x.v.n, .string x.v.s, .string x.s, .slice Ax x.l.length cx] 28)
  have hN1 := Blk.new w 28 #[.int .i64 2, .int .i64 x.v.kind, .int .i64 x.v.n, .string x.v.s, .string x.s, .slice Ax x.l.length cx]
  have hbd1 := hbd.now hb1
  have hBb1 : Below B w _ := hb1.mono hBw
  have HW := Lib.hid (writeString_any B b l x.s _ hbd1 (by simp at hlen; omega) (Nat.le_trans hBw hb1.size))
  clear ht h2 hlt
  go_enter Tryz.func50, Tryz.ntmps50
  obtain ⟨n0, n1, n2, n3, n4, n5⟩ := hN1.c6
  go_wp2_with fail
  refine (HL2.out _).mono ?_
  rintro e w2 ⟨rfl, rfl⟩
  go_wp2_with fail
  refine HW.out.mono ?_
  rintro e w3 ⟨rfl, hbd3, hb3, hk3⟩
  go_wp2_with fail
  go_end0
  exact ⟨rfl, hbd3, hBb1.trans hb3, ((Lib.OthersKept.refl _ _ _).alloc _).trans hk3⟩
set_option maxHeartbeats 2000000 in
set_option maxRecDepth 100000 in
theorem write_const (n : Nat) (u : Value) (x : Ex) (asks : Nat) (w : World) (B b : Nat) (l : List UInt8) (h2 : x.op = 1) (hlt : ¬ levB x.op.toNat < asks) (hbd : Bld w B b l) (hBw : B ≤ w.heap.size) (hx : IsEx n (Lt B) w u x) (hA : ∀ W, Below B w W → Amb W) (hv : validV x.v = true)
    (hlen : l.length + (txB (n + 1) x asks).length ≤ 100000000) :
    Calls Tryz.prog 50 #[.pointer (some ⟨b, 0, none⟩), u, .int .i64 (asks : Int)] w fun e w' => e = .returned (.tuple #[]) ∧ Bld w' B b (l ++ txB (n + 1) x asks) ∧ Below B w w' ∧ Lib.OthersKept 5 (some b) w w' := by
  have ht : txB (n + 1) x asks = (textE x.v).1.data.toList := by
    unfold txB
    dsimp only
    rw [if_neg hlt, if_pos h2]
  rw [ht] at hlen ⊢
  obtain ⟨lv, rfl, _, Ax, cx, rfl⟩ := hx.cells
  rw [h2] at hlt ⊢
  have hlv : ¬ (levB 1 : Int) < (asks : Int) := by have : levB (1 : Int).toNat = levB 1 := rfl; omega
  have HL2 := Lib.hid (fun W => level_any 1 W (by omega))
  have hb1 := bone w (.cells #[.int .i64 1, .int .i64 x.v.kind, .int .i64 x.v.n, .string x.v.s, .string x.s, .slice Ax x.l.length cx] 28)
  have hN1 := Blk.new w 28 #[.int .i64 1, .int .i64 x.v.kind, .int .i64 x.v.n, .string x.v.s, .string x.s, .slice Ax x.l.length cx]
  have hbd1 := hbd.now hb1
  have hBb1 : Below B w _ := hb1.mono hBw
  obtain ⟨_, _, _, hfv, _⟩ := hx
  have hBw1 := Nat.le_trans hBw hb1.size
  have HT := Lib.hid (textE_any x.v _ hfv (hA _ hBb1))
  unfold valV at HT
  have HLN := Lib.hid hlen
  clear hlen hA
  clear ht h2 hlt
  go_enter Tryz.func50, Tryz.ntmps50
  obtain ⟨n0, n1, n2, n3, n4, n5⟩ := hN1.c6
  go_wp2_with fail
  refine (HL2.out _).mono ?_
  rintro e w2 ⟨rfl, rfl⟩
  go_wp2_with fail
  refine HT.out.mono ?_
  rintro e w3 ⟨rfl, hb3⟩
  have hbd3 := hbd1.now hb3
  have HW := Lib.hid (writeString_any B b l (textE x.v).1 _ hbd3 (by have := HLN.out; simp at this; omega) (Nat.le_trans hBw1 hb3.size))
  go_wp2_with fail
  refine HW.out.mono ?_
  rintro e w4 ⟨rfl, hbd4, hb4, hk4⟩
  go_wp2_with fail
  go_end0
  exact ⟨rfl, hbd4, (hBb1.trans (hb3.mono hBw1)).trans hb4, (othBelow ((Lib.OthersKept.refl _ _ _).alloc _) hb3).trans hk4⟩
end Go.Proofs.YtijmnenojbfdnaaGreatDoor

namespace Go.Proofs.YtijmnenojbfdnaaGreatDoor
open Go.RowKit
set_option maxHeartbeats 2000000 in
set_option maxRecDepth 100000 in
theorem write_not (n : Nat) (hIH : ∀ k, k < n → WriteC k) (u : Value) (x : Ex) (asks : Nat) (w : World) (B b : Nat) (l : List UInt8) (h2 : x.op = 3) (hlt : ¬ levB x.op.toNat < asks) (hok : okX x = true) (h1 : x.l.length = 1) (hbd : Bld w B b l) (hBw : B ≤ w.heap.size) (hx : IsEx n (Lt B) w u x) (hA : ∀ W, Below B w W → Amb W)
    (hlen : l.length + (txB (n + 1) x asks).length ≤ 100000000) :
    Calls Tryz.prog 50 #[.pointer (some ⟨b, 0, none⟩), u, .int .i64 (asks : Int)] w fun e w' => e = .returned (.tuple #[]) ∧ Bld w' B b (l ++ txB (n + 1) x asks) ∧ Below B w w' ∧ Lib.OthersKept 5 (some b) w w' := by
  have ht : txB (n + 1) x asks = [110, 111, 116, 32] ++ txB n (kAt x.l 0) 4 := by
    unfold txB
    dsimp only
    rw [if_neg hlt, if_neg (by omega), if_neg (by omega), if_pos h2]
    cases n <;> rfl
  rw [ht] at hlen ⊢
  obtain ⟨lv, rfl, _, Ax, cx, rfl⟩ := hx.cells
  rw [h2] at hlt ⊢
  have hlv : ¬ (levB 3 : Int) < (asks : Int) := by have : levB (3 : Int).toNat = levB 3 := rfl; omega
  have HL2 := Lib.hid (fun W => level_any 3 W (by omega))
  have hb1 := bone w (.cells #[.int .i64 3, .int .i64 x.v.kind, .int .i64 x.v.n, .string x.v.s, .string x.s, .slice Ax x.l.length cx] 28)
  have hN1 := Blk.new w 28 #[.int .i64 3, .int .i64 x.v.kind, .int .i64 x.v.n, .string x.v.s, .string x.s, .slice Ax x.l.length cx]
  have hbd1 := hbd.now hb1
  have hBb1 : Below B w _ := hb1.mono hBw
  have hBw1 := Nat.le_trans hBw hb1.size
  have HW := Lib.hid (writeString_any B b l ⟨#[110, 111, 116, 32]⟩ _ hbd1 (by simp at hlen; show _ + 4 ≤ _; omega) hBw1)
  clear ht h2 hlt
  have hblt := Bld.lt hbd
  have HA := Lib.hid hA
  have HLN := Lib.hid hlen
  have HH1 := Lib.hid h1
  have HXX := Lib.hid hx
  clear hA hlen hx h1
  go_enter Tryz.func50, Tryz.ntmps50
  obtain ⟨n0, n1, n2, n3, n4, n5⟩ := hN1.c6
  go_wp2_with fail
  refine (HL2.out _).mono ?_
  rintro e w2 ⟨rfl, rfl⟩
  go_wp2_with fail
  refine HW.out.mono ?_
  rintro e w3 ⟨rfl, hbd3, hb3, hk3⟩
  have hN3 := Blk.others hN1 hk3 (fun e => by injection e with e; omega) (by decide)
  have hx3 := HXX.out.below (hBb1.trans hb3) (Nat.le_refl _)
  obtain ⟨lv3, e3, _, _, _, hs3⟩ := hx3
  have e3 : lv3 = .slice Ax x.l.length cx := by injection e3 with e3; injection e3 with e3; injection e3 with _ e3; injection e3 with _ e3; injection e3 with _ e3; injection e3 with _ e3; injection e3 with _ e3; injection e3 with e3; exact e3.symm
  subst e3
  have hk0 : 0 < x.l.length := by rw [HH1.out]; exact Nat.one_pos
  obtain ⟨bb, oo, y, lw, n', rfl, rfl, hbb, hy, hyx, _, hys, y0, y1, y2, y3, y4, y5⟩ := SlE.at_ hs3 hk0
  have hBw3 := Nat.le_trans hBw1 hb3.size
  have hBb3 := hBb1.trans hb3
  have i2 : (0 : Int) < (x.l.length : Int) := by omega
  obtain ⟨n0, n1, n2, n3, n4, n5⟩ := hN3.c6
  rw [Nat.zero_mul, Nat.add_zero] at y0 y1 y2 y3 y4 y5
  have hoky : okX y = true := by
    rw [okX_eq, Bool.and_eq_true] at hok
    exact okL_mem hok.2 y (List.mem_of_getElem? hy)
  have hky : kAt x.l 0 = y := by unfold kAt; rw [List.getD_eq_getElem?_getD, hy]; rfl
  have hln := HLN.out
  rw [hky] at hln
  have HKY := Lib.hid hky
  have hin := hIH n' (Nat.lt_succ_self _) _ y 4 w3 B b _ (by omega) hoky hbd3 hBw3 hyx (fun W h => HA.out W (hBb3.trans h)) (by simp at hln ⊢; omega)
  have HIN := Lib.hid hin
  clear hin hky hoky HL2 HW hIH hln
  go_wp2_with fail
  refine HIN.out.mono ?_
  rintro e w4 ⟨rfl, hbd4, hb4, hk4⟩
  go_wp2_with fail
  go_end0
  exact ⟨rfl, by rw [HKY.out]; simpa using hbd4, hBb3.trans hb4, (((Lib.OthersKept.refl _ _ _).alloc _).trans hk3).trans hk4⟩
end Go.Proofs.YtijmnenojbfdnaaGreatDoor

namespace Go.Proofs.YtijmnenojbfdnaaGreatDoor
open Go.RowKit
abbrev exV (y : Ex) (lw : Value) : Value := .agg #[.int .i64 y.op, .int .i64 y.v.kind, .int .i64 y.v.n, .string y.v.s, .string y.s, lw]
theorem ex_slice {n : Nat} {D : Nat → Prop} {w : World} {x : Ex} {lv : Value} (hx : IsEx n D w (exV x lv) x) : SlE n D w lv x.l := by
  obtain ⟨lv', e3, _, _, _, hs⟩ := hx
  have e3 : lv' = lv := by injection e3 with e3; injection e3 with e3; injection e3 with _ e3; injection e3 with _ e3; injection e3 with _ e3; injection e3 with _ e3; injection e3 with _ e3; injection e3 with e3; exact e3.symm
  subst e3
  exact hs
theorem okX_l {x : Ex} (h : okX x = true) : okL x.l = true := by
  rw [okX_eq, Bool.and_eq_true] at h
  exact h.2
theorem part_at {n : Nat} (hIH : ∀ k, k < n → WriteC k) {ys : List Ex} {Ax : Option Addr} {cx : Nat} {w : World} {B : Nat} (hok : okL ys = true) (hs : SlE n (Lt B) w (.slice Ax ys.length cx) ys) {k : Nat} (hk : k < ys.length) :
    ∃ bb oo y Ay cy, Ax = some ⟨bb, oo, none⟩ ∧ bb < B ∧ kAt ys k = y ∧ w.cell? ⟨bb, oo + k * 6, none⟩ = some (.int .i64 y.op) ∧ w.cell? ⟨bb, oo + k * 6 + 1, none⟩ = some (.int .i64 y.v.kind) ∧ w.cell? ⟨bb, oo + k * 6 + 2, none⟩ = some (.int .i64 y.v.n) ∧ w.cell? ⟨bb, oo + k * 6 + 3, none⟩ = some (.string y.v.s) ∧ w.cell? ⟨bb, oo + k * 6 + 4, none⟩ = some (.string y.s) ∧ w.cell? ⟨bb, oo + k * 6 + 5, none⟩ = some (.slice Ay y.l.length cy) ∧
      ∀ (asks b : Nat) (l : List UInt8) (w' : World), asks ≤ 9 → Below B w w' → Bld w' B b l → B ≤ w'.heap.size → (∀ W, Below B w' W → Amb W) → l.length + (txB n y asks).length ≤ 100000000 →
        Calls Tryz.prog 50 #[.pointer (some ⟨b, 0, none⟩), exV y (.slice Ay y.l.length cy), .int .i64 (asks : Int)] w' fun e w'' => e = .returned (.tuple #[]) ∧ Bld w'' B b (l ++ txB n y asks) ∧ Below B w' w'' ∧ Lib.OthersKept 5 (some b) w' w'' := by
  obtain ⟨bb, oo, y, lw, n', rfl, rfl, hbb, hy, hyx, _, hyl, y0, y1, y2, y3, y4, y5⟩ := SlE.at_ hs hk
  obtain ⟨Ay, cy, rfl, _, _, _⟩ := hyl.open_
  refine ⟨bb, oo, y, Ay, cy, rfl, hbb, by unfold kAt; rw [List.getD_eq_getElem?_getD, hy]; rfl, y0, y1, y2, y3, y4, y5, ?_⟩
  intro asks b l w' ha hb hbd hBw hA hlen
  exact hIH n' (Nat.lt_succ_self _) _ y asks w' B b l ha (okL_mem hok y (List.mem_of_getElem? hy)) hbd hBw (hyx.below hb (Nat.le_refl _)) hA hlen
theorem sign_at {z : Int} (h : 4 ≤ z ∧ z ≤ 11) : ∃ s : ByteArray, signL[z.toNat - 4]? = some s ∧ signOf z = s.data.toList ∧ s.size ≤ 3 := by
  obtain ⟨k, rfl⟩ : ∃ k : Nat, z = ((k + 4 : Nat) : Int) := ⟨(z - 4).toNat, by omega⟩
  have hk : k < 8 := by omega
  unfold signOf
  rw [show ((k + 4 : Nat) : Int).toNat - 4 = k by omega]
  match k, hk with
  | 0, _ | 1, _ | 2, _ | 3, _ | 4, _ | 5, _ | 6, _ | 7, _ => exact ⟨_, rfl, rfl, by decide⟩
set_option maxHeartbeats 2000000 in
set_option maxRecDepth 100000 in
theorem write_bin (n : Nat) (hIH : ∀ k, k < n → WriteC k) (u : Value) (x : Ex) (asks : Nat) (w : World) (B b : Nat) (l : List UInt8) (h2 : 4 ≤ x.op ∧ x.op ≤ 11) (hlt : ¬ levB x.op.toNat < asks) (hok : okX x = true) (h1 : x.l.length = 2) (hbd : Bld w B b l) (hBw : B ≤ w.heap.size) (hx : IsEx n (Lt B) w u x) (hA : ∀ W, Below B w W → Amb W)
    (hlen : l.length + (txB (n + 1) x asks).length ≤ 100000000) :
    Calls Tryz.prog 50 #[.pointer (some ⟨b, 0, none⟩), u, .int .i64 (asks : Int)] w fun e w' => e = .returned (.tuple #[]) ∧ Bld w' B b (l ++ txB (n + 1) x asks) ∧ Below B w w' ∧ Lib.OthersKept 5 (some b) w w' := by
  obtain ⟨sg, hsg, hso, hss⟩ := sign_at h2
  have hL2 := levB_le x.op.toNat
  have HSG : Hid (∀ W, Calls Tryz.prog 95 #[.int .i64 x.op] W fun e w' => e = .returned (.string sg) ∧ W = w') := by
    show ∀ W, _
    intro W
    have := sign_any (x.op.toNat - 4) sg W hsg
    rw [show ((x.op.toNat - 4 + 4 : Nat) : Int) = x.op by omega] at this
    exact this
  have HLV : Hid (∀ W, Calls Tryz.prog 91 #[.int .i64 x.op] W fun e w' => e = .returned (.int .i64 (levB x.op.toNat : Int)) ∧ W = w') := by
    show ∀ W, _
    intro W
    have := level_any x.op.toNat W (by omega)
    rw [show ((x.op.toNat : Nat) : Int) = x.op by omega] at this
    exact this
  generalize hL : levB x.op.toNat = L at *
  obtain ⟨left, hleft⟩ : ∃ left : Nat, left = if L = 5 then 6 else L := ⟨_, rfl⟩
  have hl9 : left ≤ 9 := by rw [hleft]; split <;> omega
  have ht : txB (n + 1) x asks = txB n (kAt x.l 0) left ++ [32] ++ sg.data.toList ++ [32] ++ txB n (kAt x.l 1) (L + 1) := by
    rw [← hso, hleft]
    unfold txB
    dsimp only
    rw [hL, if_neg hlt, if_neg (by omega), if_neg (by omega), if_neg (by omega), if_neg (by omega), if_neg (by omega)]
    cases n <;> rfl
  rw [ht] at hlen ⊢
  obtain ⟨lv, rfl, _, Ax, cx, rfl⟩ := hx.cells
  have hlv : ¬ (L : Int) < (asks : Int) := by omega
  have hb1 := bone w (.cells #[.int .i64 x.op, .int .i64 x.v.kind, .int .i64 x.v.n, .string x.v.s, .string x.s, .slice Ax x.l.length cx] 28)
  have hN1 := Blk.new w 28 #[.int .i64 x.op, .int .i64 x.v.kind, .int .i64 x.v.n, .string x.v.s, .string x.s, .slice Ax x.l.length cx]
  have hbd1 := hbd.now hb1
  have hBb1 : Below B w _ := hb1.mono hBw
  have hBw1 := Nat.le_trans hBw hb1.size
  have hblt := Bld.lt hbd
  obtain ⟨bb, oo, y, Ay, cy, rfl, hbb, hky, y0, y1, y2, y3, y4, y5, hcy⟩ := part_at hIH (okX_l hok) (ex_slice hx) (k := 0) (by omega)
  obtain ⟨bb', oo', z, Az, cz, e, _, hkz, z0, z1, z2, z3, z4, z5, hcz⟩ := part_at hIH (okX_l hok) (ex_slice hx) (k := 1) (by omega)
  injection e with e
  injection e with e1 e2 _
  subst e1 e2
  rw [hky, hkz] at hlen ⊢
  have q0 := (bcell hb1).1 bb (oo + 0 * 6) (by omega)
  have q1 := (bcell hb1).1 bb (oo + 0 * 6 + 1) (by omega)
  have q2 := (bcell hb1).1 bb (oo + 0 * 6 + 2) (by omega)
  have q3 := (bcell hb1).1 bb (oo + 0 * 6 + 3) (by omega)
  have q4 := (bcell hb1).1 bb (oo + 0 * 6 + 4) (by omega)
  have q5 := (bcell hb1).1 bb (oo + 0 * 6 + 5) (by omega)
  rw [y0, Nat.zero_mul, Nat.add_zero] at q0
  rw [y1, Nat.zero_mul, Nat.add_zero] at q1
  rw [y2, Nat.zero_mul, Nat.add_zero] at q2
  rw [y3, Nat.zero_mul, Nat.add_zero] at q3
  rw [y4, Nat.zero_mul, Nat.add_zero] at q4
  rw [y5, Nat.zero_mul, Nat.add_zero] at q5
  have HA := Lib.hid hA
  have HLN := Lib.hid hlen
  have hln : l.length + (txB n y left).length + sg.data.toList.length + (txB n z (L + 1)).length + 2 ≤ 100000000 := by simp at hlen ⊢; omega
  have HY := Lib.hid (hcy left b l _ hl9 hBb1 hbd1 hBw1 (fun W h => HA.out W (hBb1.trans h)) (by omega))
  have HZ := Lib.hid hcz
  have HL1 := Lib.hid hln
  have HSS := Lib.hid hss
  have i0 : (0 : Int) < (x.l.length : Int) := by omega
  have i1 : (1 : Int) < (x.l.length : Int) := by omega
  have HLE := Lib.hid hleft
  have hleft5 : L = 5 → left = 6 := fun e => by rw [hleft, if_pos e]
  have hleftn : L ≠ 5 → left = L := fun e => by rw [hleft, if_neg e]
  have Hl5 := Lib.hid hleft5
  have Hln := Lib.hid hleftn
  have HOK := Lib.hid ((Lib.OthersKept.refl 5 (some b) w).alloc (.cells #[.int .i64 x.op, .int .i64 x.v.kind, .int .i64 x.v.n, .string x.v.s, .string x.s, .slice (some ⟨bb, oo, none⟩) x.l.length cx] 28))
  clear hleft5 hleftn hleft hln hlen hcy hcz hA ht hlt hsg hso hss hL hx hky hkz h1 y0 y1 y2 y3 y4 y5
  go_enter Tryz.func50, Tryz.ntmps50
  obtain ⟨n0, n1, n2, n3, n4, n5⟩ := hN1.c6
  go_wp2_with fail
  refine (HLV.out _).mono ?_
  rintro e w2 ⟨rfl, rfl⟩
  clear HLV
  generalize hw1 : (w.alloc (.cells #[.int .i64 x.op, .int .i64 x.v.kind, .int .i64 x.v.n, .string x.v.s, .string x.s, .slice (some ⟨bb, oo, none⟩) x.l.length cx] 28)) = w1 at *
  clear hw1
  have hbb1 : bb < w1.heap.size := Nat.lt_of_lt_of_le hbb hBw1
  have tot : (sg.data.toList.length) = sg.size := Array.length_toList
  have HTO := Lib.hid tot
  clear tot
  by_cases h5 : L = 5
  · have l6 := Hl5.out h5
    subst h5
    have hlv5 : ¬ (5 : Int) < (asks : Int) := by have : ((5 : Nat) : Int) = 5 := rfl; omega
    clear hlv
    have l6' : txB n y left = txB n y 6 := by rw [l6]
    rw [l6'] at HL1
    rw [l6, show ((6 : Nat) : Int) = 6 from rfl] at HY
    have HL6 := Lib.hid l6'
    clear l6' l6
    go_wp2_with fail
    (with_reducible refine HY.out.mono ?_)
    rintro e w3 ⟨rfl, hbd3, hb3, hk3⟩
    have hN3 := Blk.others hN1 hk3 (fun e => by injection e with e; omega) (by decide)
    have hBb3 := hBb1.trans hb3
    have hBw3 := Nat.le_trans hBw1 hb3.size
    have HW := Lib.hid (writeString_any B b _ (⟨#[32]⟩ ++ sg ++ ⟨#[32]⟩) w3 hbd3 (by have := HL1.out; have := HTO.out; rw [List.length_append]; simp [ByteArray.size_append]; show _ + (1 + sg.size + 1) ≤ _; omega) hBw3)
    clear n0 n1 n2 n3 n4 n5
    obtain ⟨n0, n1, n2, n3, n4, n5⟩ := hN3.c6
    go_wp2_with fail
    refine (HSG.out _).mono ?_
    rintro e w4 ⟨rfl, rfl⟩
    have g1 := run_string_add_sum (P := Tryz.prog) w3 ⟨#[32]⟩ sg (by have := HSS.out; show 1 + _ ≤ _; omega)
    have g2 := run_string_add_sum (P := Tryz.prog) w3 (⟨#[32]⟩ ++ sg) ⟨#[32]⟩ (by have := HSS.out; rw [ByteArray.size_append]; show 1 + _ + 1 ≤ _; omega)
    go_wp2_with fail
    clear g1 g2
    refine HW.out.mono ?_
    rintro e w4 ⟨rfl, hbd4, hb4, hk4⟩
    have hN4 := Blk.others hN3 hk4 (fun e => by injection e with e; omega) (by decide)
    have hBb4 := hBb3.trans hb4
    have hBw4 := Nat.le_trans hBw3 hb4.size
    have hcellz : ∀ o, w4.cell? ⟨bb, o, none⟩ = w.cell? ⟨bb, o, none⟩ := fun o => hBb4.cell (p := ⟨bb, o, none⟩) hbb
    rw [← hcellz] at z0 z1 z2 z3 z4 z5
    rw [Nat.one_mul] at z0 z1 z2 z3 z4 z5
    clear hcellz
    have hz := HZ.out 6 b _ w4 (by omega) hBb4 hbd4 hBw4 (fun W h => HA.out W (hBb4.trans h)) (by have := HL1.out; have := HTO.out; simp [ByteArray.size_append] at *; omega)
    rw [show ((6 : Nat) : Int) = 6 from rfl] at hz
    have HZ2 := Lib.hid hz
    clear hz n0 n1 n2 n3 n4 n5
    obtain ⟨n0, n1, n2, n3, n4, n5⟩ := hN4.c6
    go_wp2_with fail
    (with_reducible refine HZ2.out.mono ?_)
    rintro e w5 ⟨rfl, hbd5, hb5, hk5⟩
    go_wp2_with fail
    go_end0
    exact ⟨rfl, by rw [HL6.out]; simpa using hbd5, hBb4.trans hb5, ((HOK.out.trans hk3).trans hk4).trans hk5⟩
  · have l6 := Hln.out h5
    have d5 : ((L : Int) == 5) = false := by simp; omega
    have l6' : txB n y left = txB n y L := by rw [l6]
    rw [l6'] at HL1
    rw [l6] at HY
    have HL6 := Lib.hid l6'
    clear l6' l6
    go_wp2_with fail
    (with_reducible refine HY.out.mono ?_)
    rintro e w3 ⟨rfl, hbd3, hb3, hk3⟩
    have hN3 := Blk.others hN1 hk3 (fun e => by injection e with e; omega) (by decide)
    have hBb3 := hBb1.trans hb3
    have hBw3 := Nat.le_trans hBw1 hb3.size
    have HW := Lib.hid (writeString_any B b _ (⟨#[32]⟩ ++ sg ++ ⟨#[32]⟩) w3 hbd3 (by have := HL1.out; have := HTO.out; rw [List.length_append]; simp [ByteArray.size_append]; show _ + (1 + sg.size + 1) ≤ _; omega) hBw3)
    clear n0 n1 n2 n3 n4 n5
    obtain ⟨n0, n1, n2, n3, n4, n5⟩ := hN3.c6
    go_wp2_with fail
    refine (HSG.out _).mono ?_
    rintro e w4 ⟨rfl, rfl⟩
    have g1 := run_string_add_sum (P := Tryz.prog) w3 ⟨#[32]⟩ sg (by have := HSS.out; show 1 + _ ≤ _; omega)
    have g2 := run_string_add_sum (P := Tryz.prog) w3 (⟨#[32]⟩ ++ sg) ⟨#[32]⟩ (by have := HSS.out; rw [ByteArray.size_append]; show 1 + _ + 1 ≤ _; omega)
    go_wp2_with fail
    clear g1 g2
    refine HW.out.mono ?_
    rintro e w4 ⟨rfl, hbd4, hb4, hk4⟩
    have hN4 := Blk.others hN3 hk4 (fun e => by injection e with e; omega) (by decide)
    have hBb4 := hBb3.trans hb4
    have hBw4 := Nat.le_trans hBw3 hb4.size
    have hcellz : ∀ o, w4.cell? ⟨bb, o, none⟩ = w.cell? ⟨bb, o, none⟩ := fun o => hBb4.cell (p := ⟨bb, o, none⟩) hbb
    rw [← hcellz] at z0 z1 z2 z3 z4 z5
    rw [Nat.one_mul] at z0 z1 z2 z3 z4 z5
    clear hcellz
    have hz := HZ.out (L + 1) b _ w4 (by omega) hBb4 hbd4 hBw4 (fun W h => HA.out W (hBb4.trans h)) (by have := HL1.out; have := HTO.out; simp [ByteArray.size_append] at *; omega)
    rw [show ((L + 1 : Nat) : Int) = (L : Int) + 1 from rfl] at hz
    have HZ2 := Lib.hid hz
    clear hz n0 n1 n2 n3 n4 n5
    obtain ⟨n0, n1, n2, n3, n4, n5⟩ := hN4.c6
    go_wp2_with fail
    (with_reducible refine HZ2.out.mono ?_)
    rintro e w5 ⟨rfl, hbd5, hb5, hk5⟩
    go_wp2_with fail
    go_end0
    exact ⟨rfl, by rw [HL6.out]; simpa using hbd5, hBb4.trans hb5, ((HOK.out.trans hk3).trans hk4).trans hk5⟩
end Go.Proofs.YtijmnenojbfdnaaGreatDoor

namespace Go.Proofs.YtijmnenojbfdnaaGreatDoor
open Go.RowKit
mutual
/-- The names of the variables of an expression, as they come. -/
def namX : Ex → List Bs
  | .mk op _ s l => (if op = 2 then [s.data.toList] else []) ++ namL l
def namL : List Ex → List Bs
  | [] => []
  | x :: l => namX x ++ namL l
end
theorem namX_eq (x : Ex) : namX x = (if x.op = 2 then [x.s.data.toList] else []) ++ namL x.l := by cases x; rw [namX]; rfl
theorem namL_nil : namL [] = [] := by rw [namL]
theorem namL_cons (x : Ex) (l : List Ex) : namL (x :: l) = namX x ++ namL l := by rw [namL]
mutual
theorem namX_len : ∀ x : Ex, (namX x).length ≤ nodX x
  | .mk op v s l => by
    have := namL_len l
    rw [namX, nodX, List.length_append]
    split
    · show 1 + _ ≤ _; omega
    · show 0 + _ ≤ _; omega
theorem namL_len : ∀ l : List Ex, (namL l).length ≤ nodL l
  | [] => by rw [namL_nil]; exact Nat.zero_le _
  | x :: l => by
    have h1 := namX_len x
    have h2 := namL_len l
    rw [namL_cons, nodL_cons, List.length_append]; omega
end
def freeX (x : Ex) : List ByteArray := (setB (namX x)).map mkS
def freeE (x : Ex) : List ByteArray × Int := if validX x then (freeX x, 0) else ([], 1)
def RetNm (w : World) (base : Nat) (ss : List Bs) (e : Ending) (w' : World) : Prop := ∃ v', e = .returned v' ∧ OwnS w' base v' ss ∧ Below base w w'
def RetSE' (r : List ByteArray × Int) (w : World) (e : Ending) (w' : World) : Prop := ∃ v, e = .returned (.tuple #[v, .int .i64 r.2]) ∧ SlS (Lt w'.heap.size) w' v r.1 ∧ Below w.heap.size w w'
end Go.Proofs.YtijmnenojbfdnaaGreatDoor
