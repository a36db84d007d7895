/- Texts of this seat, merged. -/
import Derived.Orders
import Derived.Deep.Quiet
import Derived.StillTail
import Derived.Deep.RegionHeld
import Derived.Deep.RegionHeld3
import Derived.Test.YtijmnenojbfdnaaGreatDoorEq01
import Derived.Test.YtijmnenojbfdnaaGreatDoorEq02
import Derived.Test.YtijmnenojbfdnaaGreatDoorEq03
import Derived.Test.YtijmnenojbfdnaaGreatDoorEq04
import Derived.Test.YtijmnenojbfdnaaGreatDoorEq05
import Derived.Test.YtijmnenojbfdnaaGreatDoorEq06
import Derived.Test.YtijmnenojbfdnaaGreatDoorEq07
import Derived.Test.YtijmnenojbfdnaaGreatDoorEq08
import Derived.Test.YtijmnenojbfdnaaGreatDoorEq09
import Derived.Test.YtijmnenojbfdnaaGreatDoorEq10
import Derived.Test.YtijmnenojbfdnaaGreatDoorEq11
import Derived.Test.YtijmnenojbfdnaaGreatDoorEq12
import Derived.Test.YtijmnenojbfdnaaGreatDoorEq15
import Derived.Test.YtijmnenojbfdnaaGreatDoorEq16
import Derived.Test.YtijmnenojbfdnaaGreatDoorEq17
set_option linter.unusedSimpArgs false
set_option linter.unusedVariables false
namespace Go.Proofs.YtijmnenojbfdnaaGreatDoor
open Go.RowKit
theorem appEx' : AppInfo Tryz.prog 26 28 6 := AppInfo.mk' (z := .agg zeroXs) (bytes := 80) Tryz.underlying26 (by kernel_rfl) (by omega) rfl (by omega)
theorem grownVia {w a b : World} {g : Nat} {row : Option Nat} (h : w.grownBy a (some g)) (k : a.grownBy b row) (hq : ∀ q, row = some q → w.heap.size ≤ q) : w.grownBy b (some g) :=
  ⟨k.os.trans h.os, k.tape.trans h.tape, k.output.trans h.output, Nat.le_trans h.size k.size, fun j hj hne => (k.block j (Nat.lt_of_lt_of_le hj h.size) (fun e => by have := hq j e.symm; omega)).trans (h.block j hj hne)⟩
theorem pSet_step {L : List Tok} {f i : Nat} {acc : List Ex} {R : List Ex × Nat} (h : pSetB L f i acc = some R) : ∃ f' y i', f = f' + 1 ∧ conB L i = some (some (y, i')) ∧ ((isB L i' kComma = true ∧ pSetB L f' (i' + 1) (acc ++ [y]) = some R) ∨ (isB L i' kComma = false ∧ isB L i' kRight = true ∧ R = (acc ++ [y], i' + 1))) := by
  cases f with
  | zero => cases h
  | succ f =>
    unfold pSetB at h
    cases hc : conB L i with
    | none => rw [hc] at h; cases h
    | some r =>
      cases r with
      | none => rw [hc] at h; cases h
      | some p =>
        obtain ⟨y, i'⟩ := p
        rw [hc] at h
        dsimp only at h
        refine ⟨f, y, i', rfl, rfl, ?_⟩
        by_cases h1 : isB L i' kComma = true
        · rw [if_pos h1] at h; exact .inl ⟨h1, h⟩
        · rw [if_neg h1] at h
          by_cases h2 : isB L i' kRight = true
          · rw [if_pos h2] at h
            injection h with h
            exact .inr ⟨by simpa using h1, h2, h.symm⟩
          · rw [if_neg h2] at h; cases h
theorem RExN.grownX {n q g : Nat} {w w' : World} {cs : List Value} {x : Ex} (h : RExN n (DX q w) w x cs) (hq : g ≤ q) (hg : w.grownBy w' (some g)) : RExN n (DX q w') w' x cs :=
  RExN.kept n _ _ _ _ _ _ (fun _ hb => ⟨hb.1, Nat.lt_of_lt_of_le hb.2 hg.size⟩) (DX.same hq hg) h
theorem isEx_node {D : Nat → Prop} {w : World} {lv : Value} {l : List Ex} {m : Nat} (op : Nat) (h : SlE m D w lv l) (hop : op ≤ 100) : IsEx m D w (.agg #[.int .i64 (op : Int), .int .i64 0, .int .i64 0, .string ⟨#[]⟩, .string ⟨#[]⟩, lv]) (nodeB op l) :=
  ⟨lv, rfl, fit_small (z := (op : Int)) ⟨by omega, by omega⟩, ⟨fit_small (z := 0) ⟨by decide, by decide⟩, fit_small (z := 0) ⟨by decide, by decide⟩, Nat.zero_le _⟩, Nat.zero_le _, h⟩
set_option maxHeartbeats 800000 in
set_option maxRecDepth 100000 in
theorem set_any (q0 g : Nat) (hgq : g ≤ q0) (A : Option Addr) (c : Nat) (L : List Tok) (hL : TokOk L) (f i : Nat) (x : Ex) (m : Nat) (xv : Value) (R : List Ex × Nat) (w : World) (hf : f ≤ 1000) (hl : SlTk (Lt g) w (.slice A L.length c) L) (h : IsPs w g A c L i) (hqw : q0 < w.heap.size) (hx : IsEx m (DX q0 w) w xv x)
    (hq : isB L i kLeft = true) (hr : pSetB L f (i + 1) [x] = some R) :
    Calls Tryz.prog 124 #[.pointer (some ⟨g, 0, none⟩), xv] w (RetX q0 g A c L (nodeB 13 R.1, R.2) w) := by
  obtain ⟨lv, rfl, hx6, Al, cl, rfl⟩ := hx.cells
  have hglt : g < w.heap.size := Blk.lt h
  have HR := Lib.hid hr
  have HX6 := Lib.hid hx6
  clear hr hx6 hx
  go_enter Tryz.func124, Tryz.ntmps124
  go_upto_region 2 with fail
  have hbw : Below w.heap.size w ((((w.alloc (.cells #[.int .i64 x.op, .int .i64 x.v.kind, .int .i64 x.v.n, .string x.v.s, .string x.s, .slice Al x.l.length cl] 28)).alloc (.cells #[.int .i64 0, .int .i64 0, .int .i64 0, .string ⟨#[]⟩, .string ⟨#[]⟩, .slice none 0 0] 28)).alloc (.cells #[.int .i64 x.op, .int .i64 x.v.kind, .int .i64 x.v.n, .string x.v.s, .string x.s, .slice Al x.l.length cl] 28)).alloc (.cells #[.int .i64 13, .int .i64 0, .int .i64 0, .string ⟨#[]⟩, .string ⟨#[]⟩, .slice (some ⟨w.heap.size + 1 + 1, 0, none⟩) 1 1] 28)) := bbox (bbox (bbox (bone w _) _) _) _
  have hZ := ((Blk.new_at (t := 28) (cs := #[.int .i64 0, .int .i64 0, .int .i64 0, .string ⟨#[]⟩, .string ⟨#[]⟩, .slice none 0 0]) (w := (w.alloc (.cells #[.int .i64 x.op, .int .i64 x.v.kind, .int .i64 x.v.n, .string x.v.s, .string x.s, .slice Al x.l.length cl] 28))) (s := w.heap.size + 1) (World.size_alloc _ _)).alloc (.cells #[.int .i64 x.op, .int .i64 x.v.kind, .int .i64 x.v.n, .string x.v.s, .string x.s, .slice Al x.l.length cl] 28)).alloc (.cells #[.int .i64 13, .int .i64 0, .int .i64 0, .string ⟨#[]⟩, .string ⟨#[]⟩, .slice (some ⟨w.heap.size + 1 + 1, 0, none⟩) 1 1] 28)
  have hK := Blk.new_at (t := 28) (cs := #[.int .i64 13, .int .i64 0, .int .i64 0, .string ⟨#[]⟩, .string ⟨#[]⟩, .slice (some ⟨w.heap.size + 1 + 1, 0, none⟩) 1 1]) (w := (((w.alloc (.cells #[.int .i64 x.op, .int .i64 x.v.kind, .int .i64 x.v.n, .string x.v.s, .string x.s, .slice Al x.l.length cl] 28)).alloc (.cells #[.int .i64 0, .int .i64 0, .int .i64 0, .string ⟨#[]⟩, .string ⟨#[]⟩, .slice none 0 0] 28)).alloc (.cells #[.int .i64 x.op, .int .i64 x.v.kind, .int .i64 x.v.n, .string x.v.s, .string x.s, .slice Al x.l.length cl] 28))) (s := w.heap.size + 1 + 1 + 1) (by rw [World.size_alloc, World.size_alloc, World.size_alloc])
  have hrow0 := own_now (World.ownsRow_lit (base := w.heap.size + 1 + 1) (e := 28) (size := 6) ((w.alloc (.cells #[.int .i64 x.op, .int .i64 x.v.kind, .int .i64 x.v.n, .string x.v.s, .string x.s, .slice Al x.l.length cl] 28)).alloc (.cells #[.int .i64 0, .int .i64 0, .int .i64 0, .string ⟨#[]⟩, .string ⟨#[]⟩, .slice none 0 0] 28)) #[.int .i64 x.op, .int .i64 x.v.kind, .int .i64 x.v.n, .string x.v.s, .string x.s, .slice Al x.l.length cl] 1 (by rw [World.size_alloc, World.size_alloc]; exact Nat.le_refl _) (by unfold maxLen; omega) rfl) (bone (((w.alloc (.cells #[.int .i64 x.op, .int .i64 x.v.kind, .int .i64 x.v.n, .string x.v.s, .string x.s, .slice Al x.l.length cl] 28)).alloc (.cells #[.int .i64 0, .int .i64 0, .int .i64 0, .string ⟨#[]⟩, .string ⟨#[]⟩, .slice none 0 0] 28)).alloc (.cells #[.int .i64 x.op, .int .i64 x.v.kind, .int .i64 x.v.n, .string x.v.s, .string x.s, .slice Al x.l.length cl] 28)) (.cells #[.int .i64 13, .int .i64 0, .int .i64 0, .string ⟨#[]⟩, .string ⟨#[]⟩, .slice (some ⟨w.heap.size + 1 + 1, 0, none⟩) 1 1] 28))
  have hsw : ((w.alloc (.cells #[.int .i64 x.op, .int .i64 x.v.kind, .int .i64 x.v.n, .string x.v.s, .string x.s, .slice Al x.l.length cl] 28)).alloc (.cells #[.int .i64 0, .int .i64 0, .int .i64 0, .string ⟨#[]⟩, .string ⟨#[]⟩, .slice none 0 0] 28)).heap.size = w.heap.size + 1 + 1 := by rw [World.size_alloc, World.size_alloc]
  rw [hsw] at hrow0
  have hsz : w.heap.size + 4 ≤ ((((w.alloc (.cells #[.int .i64 x.op, .int .i64 x.v.kind, .int .i64 x.v.n, .string x.v.s, .string x.s, .slice Al x.l.length cl] 28)).alloc (.cells #[.int .i64 0, .int .i64 0, .int .i64 0, .string ⟨#[]⟩, .string ⟨#[]⟩, .slice none 0 0] 28)).alloc (.cells #[.int .i64 x.op, .int .i64 x.v.kind, .int .i64 x.v.n, .string x.v.s, .string x.s, .slice Al x.l.length cl] 28)).alloc (.cells #[.int .i64 13, .int .i64 0, .int .i64 0, .string ⟨#[]⟩, .string ⟨#[]⟩, .slice (some ⟨w.heap.size + 1 + 1, 0, none⟩) 1 1] 28)).heap.size := by rw [World.size_alloc, World.size_alloc, World.size_alloc, World.size_alloc]; omega
  generalize hw1 : ((((w.alloc (.cells #[.int .i64 x.op, .int .i64 x.v.kind, .int .i64 x.v.n, .string x.v.s, .string x.s, .slice Al x.l.length cl] 28)).alloc (.cells #[.int .i64 0, .int .i64 0, .int .i64 0, .string ⟨#[]⟩, .string ⟨#[]⟩, .slice none 0 0] 28)).alloc (.cells #[.int .i64 x.op, .int .i64 x.v.kind, .int .i64 x.v.n, .string x.v.s, .string x.s, .slice Al x.l.length cl] 28)).alloc (.cells #[.int .i64 13, .int .i64 0, .int .i64 0, .string ⟨#[]⟩, .string ⟨#[]⟩, .slice (some ⟨w.heap.size + 1 + 1, 0, none⟩) 1 1] 28)) = w1 at *
  clear hw1 hsw
  obtain ⟨cs, hcs⟩ : ∃ cs : List Value, [.int .i64 x.op, .int .i64 x.v.kind, .int .i64 x.v.n, .string x.v.s, .string x.s, .slice Al x.l.length cl] = cs := ⟨_, rfl⟩
  have hcl : cs.length = 6 := by rw [← hcs]; rfl
  have hrow1 : w1.ownsRow (w.heap.size + 1 + 1) 28 6 (.slice (some ⟨w.heap.size + 1 + 1, 0, none⟩) 1 1) (1 + ([] : List Int).length) (rowC cs []) := by
    unfold rowC; rw [List.flatMap_nil, List.append_nil, ← hcs]; exact hrow0
  have HXC : Hid (RExN (m + 1) (DX q0 w) w x cs) := by show _; rw [← hcs]; exact HX6.out
  clear hrow0 hcs HX6
  have h1 := IsPs.now h hbw
  have hl1 := Sl.below hl RTok.kept (hbw.mono (Nat.le_of_lt hglt)) (Nat.le_refl _)
  have hnd := need_any g A c L i kLeft w1 (isB_lt hq) (Lt g) hl1 hL.len h1 hq
  unfold kLeft at hnd
  have HND := Lib.hid hnd
  clear hnd h1 hl1
  go_wp2_with fail
  refine HND.out.mono ?_
  rintro e w2 ⟨rfl, h2, hg2⟩
  have hg02 := lexGrownT (grown_of_below hbw (some g)) hg2
  have hZ2 := hZ.grown hg2 (fun e => by injection e with e; omega)
  have hK2 := hK.grown hg2 (fun e => by injection e with e; omega)
  have hrow2 := hrow1.kept hg2 (.inr (fun e => by injection e with e; have : w.heap.size + 1 + 1 = g := e; omega))
  have hsz2 := Nat.le_trans hsz hg2.size
  clear hZ hK hrow1 hsz hg2 HND hbw
  go_wp2_with fail
  go_loopg [] f (fun gg wr => ∃ (f' i' : Nat) (ns : List Int) (sv : Value), f' ≤ gg ∧ ns.length + f' ≤ f ∧ Hid (pSetB L f' i' (x :: ns.map num) = some R) ∧ i' < L.length ∧ (∀ n ∈ ns, 0 ≤ n ∧ n ≤ 4) ∧ IsPs wr g A c L i' ∧
    Blk wr (w.heap.size + 1) 28 #[.int .i64 0, .int .i64 0, .int .i64 0, .string ⟨#[]⟩, .string ⟨#[]⟩, .slice none 0 0] ∧ Blk wr (w.heap.size + 1 + 1 + 1) 28 #[.int .i64 13, .int .i64 0, .int .i64 0, .string ⟨#[]⟩, .string ⟨#[]⟩, sv] ∧
    wr.ownsRow (w.heap.size + 1 + 1) 28 6 sv (1 + ns.length) (rowC cs ns) ∧ (∀ q, sv.ownBlock = some q → q ≠ w.heap.size + 1 + 1 + 1) ∧ w.grownBy wr (some g) ∧ w.heap.size + 4 ≤ wr.heap.size)
  case atStart => exact ⟨f, i + 1, [], _, Nat.le_refl _, by simp, HR.out, hL.next hq, by simp, h2, hZ2, hK2, hrow2, fun q e => by injection e with e; have e : w.heap.size + 1 + 1 = q := e; omega, hg02, hsz2⟩
  case round =>
    obtain ⟨f', i', ns, sv, hfg, hnf, HRR, hi', hns, hr', hZr, hKr, hrow, hnt, hgr, hszr⟩ := hrel
    clear h2 hZ2 hK2 hrow2 hg02 hsz2
    obtain ⟨f'', y, i'', rfl, hcon, hcase⟩ := pSet_step HRR.out
    obtain ⟨t, ht, hy, hi2⟩ := conB_some hcon
    subst hy hi2
    have htn := hL.num t (List.mem_of_getElem? ht)
    have hlr := Sl.below hl RTok.kept (below_of_grown hgr (Nat.le_of_lt hglt) (fun q e => by injection e with e; omega)) (Nat.le_refl _)
    have hc3 := constant_any g A c L i' _ wr hi' hL.len g (by omega) hlr hr' hcon
    have HCC := Lib.hid hc3
    have HCS := Lib.hid hcase
    have HTT := Lib.hid ht
    clear hc3 hcase ht hcon HRR hlr
    have hnb : ∀ q, sv.ownBlock = some q → w.heap.size + 1 + 1 ≤ q := fun q e => (hrow.lt q e).1
    go_wp2_with fail
    refine HCC.out.mono ?_
    rintro e w3 ⟨⟨n, hxe, rfl, h3, _⟩, hg3⟩
    have hn : n = t.n := by unfold num at hxe; injection hxe with _ h _ _; injection h with _ h _; exact h.symm
    have hn0 : 0 ≤ n ∧ n ≤ 4 := by rw [hn]; exact htn
    have HN := Lib.hid hn
    clear hxe hn
    have hZ3 := hZr.grown hg3 (fun e => by injection e with e; omega)
    have hK3 := hKr.grown hg3 (fun e => by injection e with e; omega)
    have hrow3 := hrow.kept hg3 (by
      cases e : sv.ownBlock with
      | none => exact .inl rfl
      | some q => exact .inr (fun e2 => by injection e2 with e2; have := hnb q e; omega))
    have hgr3 := lexGrownT hgr hg3
    have hsz3 := Nat.le_trans hszr hg3.size
    clear hZr hKr hrow hgr hszr hg3 HCC
    have hb4 := bone w3 (.cells #[.int .i64 1, .int .i64 2, .int .i64 n, .string ⟨#[]⟩, .string ⟨#[]⟩, .slice none 0 0] 28)
    have hT4 := Blk.new w3 28 #[.int .i64 1, .int .i64 2, .int .i64 n, .string ⟨#[]⟩, .string ⟨#[]⟩, .slice none 0 0]
    have hZ4 := hZ3.now hb4
    have hK4 := hK3.now hb4
    have hrow4 := own_now hrow3 hb4
    have h4 := IsPs.now h3 hb4
    have hgr4 := lexGrownT hgr3 (grown_of_below hb4 (some g))
    have hsz4 := Nat.le_trans hsz3 hb4.size
    have hnk : ∀ q, sv.ownBlock = some q → q < w3.heap.size := fun q e => (hrow3.lt q e).2
    unfold numXs
    go_upto_region 4 with fail
    generalize hw4 : w3.alloc (.cells #[.int .i64 1, .int .i64 2, .int .i64 n, .string ⟨#[]⟩, .string ⟨#[]⟩, .slice none 0 0] 28) = w4 at *
    have htlt := hT4.lt
    have ht6 : w.heap.size + 4 ≤ w3.heap.size := hsz3
    generalize hkt : w3.heap.size = kt at *
    clear hw4 hkt hZ3 hK3 hrow3 h3 hgr3 hsz3 hb4
    obtain ⟨k0, k1, k2, k3, k4, k5⟩ := hK4.c6
    obtain ⟨t0, t1, t2, t3, t4, t5⟩ := hT4.c6
    obtain ⟨As, cs', rfl⟩ : ∃ As cs', sv = .slice As (1 + ns.length) cs' := by
      rcases hrow4.2 with ⟨e, e0⟩ | ⟨g, c, cur, e, _⟩
      · exact absurd e0 (by omega)
      · exact ⟨_, _, e⟩
    go_wp2_with (at_builtin; refine wpList_push appEx' rfl (.tmp 25) (.tmp 27) rfl w4 [.int .i64 1, .int .i64 2, .int .i64 n, .string ⟨#[]⟩, .string ⟨#[]⟩, .slice none 0 0] rfl (by simp [Value.oneCell']) _ (1 + ns.length) (rowC cs ns) rfl hrow4 rfl (by omega) (by omega) ?_; intro v' w' hown' hgw hat; generalize hW : @wpList = WL)
    subst hW
    obtain ⟨g', cap', rfl, hgf, hg'l⟩ := World.ownsRow.form hown' (by omega)
    have hK5 := hK4.grown hgw (fun e => hnt _ e.symm rfl)
    have hZ5 := hZ4.grown hgw (fun e => by have := hnb _ e.symm; omega)
    have h5 : IsPs w' g A c L (i' + 1) := Blk.grown h4 hgw (fun e => by have := hnb _ e.symm; omega)
    have hgr5 : w.grownBy w' (some g) := grownVia hgr4 hgw (fun q e => by have := hnb q e; omega)
    have hnk' : g' ≠ w.heap.size + 1 + 1 + 1 := by
      rcases hat with h | h
      · exact fun e => hnt g' (show _ = some g' from h.symm) e
      · injection h with h; have h : g' = w4.heap.size + 1 := h; intro e; omega
    have hgw5 := hgw.size
    have f5 := hK5.frozen 5
    obtain ⟨m0, m1, m2, m3, m4, m5⟩ := hK5.c6
    have hK6 : Blk (w'.setCell ⟨w.heap.size + 1 + 1 + 1, 5, none⟩ (.slice (some ⟨g', 0, none⟩) (1 + ns.length + 1) cap')) (w.heap.size + 1 + 1 + 1) 28 #[.int .i64 13, .int .i64 0, .int .i64 0, .string ⟨#[]⟩, .string ⟨#[]⟩, (.slice (some ⟨g', 0, none⟩) (1 + ns.length + 1) cap')] := hK5.set_ 5 _
    have hZ6 := hZ5.far (p := ⟨w.heap.size + 1 + 1 + 1, 5, none⟩) (show w.heap.size + 1 ≠ w.heap.size + 1 + 1 + 1 by omega) (.slice (some ⟨g', 0, none⟩) (1 + ns.length + 1) cap')
    have h6 : IsPs (w'.setCell ⟨w.heap.size + 1 + 1 + 1, 5, none⟩ (.slice (some ⟨g', 0, none⟩) (1 + ns.length + 1) cap')) g A c L (i' + 1) := Blk.far h5 (p := ⟨w.heap.size + 1 + 1 + 1, 5, none⟩) (show g ≠ w.heap.size + 1 + 1 + 1 by omega) (.slice (some ⟨g', 0, none⟩) (1 + ns.length + 1) cap')
    have hgr6 := grownF hgr5 (show w.heap.size ≤ w.heap.size + 1 + 1 + 1 by omega) 5 (.slice (some ⟨g', 0, none⟩) (1 + ns.length + 1) cap')
    have hrow6 := ownsRow_setCell_other (a := ⟨w.heap.size + 1 + 1 + 1, 5, none⟩) hown' (fun e => by injection e with e; exact hnk' e) (.slice (some ⟨g', 0, none⟩) (1 + ns.length + 1) cap')
    have hsz6 : w.heap.size + 4 ≤ (w'.setCell ⟨w.heap.size + 1 + 1 + 1, 5, none⟩ (.slice (some ⟨g', 0, none⟩) (1 + ns.length + 1) cap')).heap.size := by rw [World.size_setCell]; exact Nat.le_trans hsz4 hgw5
    have hrc : rowC cs (ns ++ [n]) = rowC cs ns ++ [.int .i64 1, .int .i64 2, .int .i64 n, .string ⟨#[]⟩, .string ⟨#[]⟩, .slice none 0 0] := rowC_snoc cs ns n
    rw [← hrc] at hrow6
    clear hrc k0 k1 k2 k3 k4 k5 t0 t1 t2 t3 t4 t5 hT4 hK4 hZ4 h4 hgr4 hsz4 hgw hK5 hZ5 h5 hgr5 hown' hat
    go_upto_region 8 with fail
    generalize hw6 : w'.setCell ⟨w.heap.size + 1 + 1 + 1, 5, none⟩ (.slice (some ⟨g', 0, none⟩) (1 + ns.length + 1) cap') = w6 at *
    clear hw6 m0 m1 m2 m3 m4 m5 f5
    have hl6 := Sl.below hl RTok.kept (below_of_grown hgr6 (Nat.le_of_lt hglt) (fun q e => by injection e with e; omega)) (Nat.le_refl _)
    have hi1 : i' + 1 < L.length := by
      rcases HCS.out with ⟨h, _⟩ | ⟨_, h, _⟩
      · exact isB_lt h
      · exact isB_lt h
    have htk := take_any g A c L (i' + 1) kComma w6 hi1 (Lt g) hl6 hL.len h6
    unfold kComma at htk
    obtain ⟨q, hq'⟩ : ∃ q, isB L (i' + 1) ⟨#[44]⟩ = q := ⟨_, rfl⟩
    rw [hq'] at htk
    have HTK := Lib.hid htk
    have HQ := Lib.hid hq'
    clear htk hq' h6 hl6
    go_wp2_with fail
    refine HTK.out.mono ?_
    rintro e w7 ⟨rfl, h7, hg7⟩
    have hK7 := hK6.grown hg7 (fun e => by injection e with e; omega)
    have hZ7 := hZ6.grown hg7 (fun e => by injection e with e; omega)
    have hrow7 := hrow6.kept hg7 (.inr (fun e => by injection e with e; have : g' = g := e; omega))
    have hgr7 := lexGrownT hgr6 hg7
    have hsz7 := Nat.le_trans hsz6 hg7.size
    clear hK6 hZ6 hrow6 hgr6 hsz6 hg7 HTK
    have hns' : ∀ z ∈ ns ++ [n], 0 ≤ z ∧ z ≤ 4 := fun z hz => by
      rcases List.mem_append.1 hz with h | h
      · exact hns z h
      · rw [List.mem_singleton.1 h]; exact hn0
    have hmap : x :: (ns ++ [n]).map num = (x :: ns.map num) ++ [num t.n] := by rw [List.map_append, HN.out]; rfl
    have HMAP := Lib.hid hmap
    have hlen : (ns ++ [n]).length = ns.length + 1 := by simp
    cases q
    · have hR2 : isB L (i' + 1) kRight = true ∧ R = ((x :: ns.map num) ++ [num t.n], i' + 1 + 1) := by
        rcases HCS.out with ⟨h, _⟩ | ⟨_, h1, h2⟩
        · rw [show kComma = (⟨#[44]⟩ : ByteArray) from rfl, HQ.out] at h; cases h
        · exact ⟨h1, h2⟩
      obtain ⟨hRt, hRe⟩ := hR2
      have hl7 := Sl.below hl RTok.kept (below_of_grown hgr7 (Nat.le_of_lt hglt) (fun q e => by injection e with e; omega)) (Nat.le_refl _)
      have hnd := need_any g A c L (i' + 1) kRight w7 hi1 (Lt g) hl7 hL.len h7 hRt
      unfold kRight at hnd
      have HND := Lib.hid hnd
      have HRE := Lib.hid hRe
      have HRT := Lib.hid (hL.next hRt)
      clear hnd h7 hl7 hRt hRe hmap HCS
      go_wp2_with fail
      refine HND.out.mono ?_
      rintro e w8 ⟨rfl, h8, hg8⟩
      have hK8 := hK7.grown hg8 (fun e => by injection e with e; omega)
      have hZ8 := hZ7.grown hg8 (fun e => by injection e with e; omega)
      have hrow8 := hrow7.kept hg8 (.inr (fun e => by injection e with e; have : g' = g := e; omega))
      have hgr8 := lexGrownT hgr7 hg8
      clear hK7 hZ7 hrow7 hgr7 hg8 HND
      obtain ⟨k0, k1, k2, k3, k4, k5⟩ := hK8.c6
      obtain ⟨z0, z1, z2, z3, z4, z5⟩ := hZ8.c6
      have f0 := hZ8.frozen 0
      have f1 := hZ8.frozen 1
      have f2 := hZ8.frozen 2
      have f3 := hZ8.frozen 3
      have f4 := hZ8.frozen 4
      have f5 := hZ8.frozen 5
      go_wp2_with fail
      obtain ⟨s0, s1, s2, s3, s4, s5⟩ := (hZ8.set6' (.int .i64 13) (.int .i64 0) (.int .i64 0) (.string ⟨#[]⟩) (.string ⟨#[]⟩) (.slice (some ⟨g', 0, none⟩) (1 + ns.length + 1) cap')).c6
      refine bodyPost_ret (v := .agg #[.int .i64 13, .int .i64 0, .int .i64 0, .string ⟨#[]⟩, .string ⟨#[]⟩, (.slice (some ⟨g', 0, none⟩) (1 + ns.length + 1) cap')]) (by simp [results, Tryz.results124, go_sem, s0, s1, s2, s3, s4, s5]) rfl ?_
      have hgr9 := grown6' hgr8 (show w.heap.size ≤ w.heap.size + 1 by omega) (.int .i64 13) (.int .i64 0) (.int .i64 0) (.string ⟨#[]⟩) (.string ⟨#[]⟩) (.slice (some ⟨g', 0, none⟩) (1 + ns.length + 1) cap')
      have h9 := Blk.far6 h8 (show g ≠ w.heap.size + 1 by omega) (.int .i64 13) (.int .i64 0) (.int .i64 0) (.string ⟨#[]⟩) (.string ⟨#[]⟩) (.slice (some ⟨g', 0, none⟩) (1 + ns.length + 1) cap')
      have hno : (Value.slice (some ⟨g', 0, none⟩) (1 + ns.length + 1) cap').ownBlock ≠ some (w.heap.size + 1) := fun e => by injection e with e; have : g' = w.heap.size + 1 := e; omega
      have hrow9 := ownsRow_setCell_other (a := ⟨w.heap.size + 1, 5, none⟩) (ownsRow_setCell_other (a := ⟨w.heap.size + 1, 4, none⟩) (ownsRow_setCell_other (a := ⟨w.heap.size + 1, 3, none⟩) (ownsRow_setCell_other (a := ⟨w.heap.size + 1, 2, none⟩) (ownsRow_setCell_other (a := ⟨w.heap.size + 1, 1, none⟩) (ownsRow_setCell_other (a := ⟨w.heap.size + 1, 0, none⟩) (hrow8) hno (.int .i64 13)) hno (.int .i64 0)) hno (.int .i64 0)) hno (.string ⟨#[]⟩)) hno (.string ⟨#[]⟩)) hno (.slice (some ⟨g', 0, none⟩) (1 + ns.length + 1) cap')
      refine ⟨m + 1, _, rfl, ?_, by rw [HRE.out]; exact h9, by rw [HRE.out]; exact HRT.out, hgr9⟩
      rw [HRE.out]
      refine isEx_node 13 ?_ (by omega)
      show SlE (m + 1) _ _ _ ((x :: ns.map num) ++ [num t.n])
      rw [← HMAP.out]
      refine rowC_sl (by rw [hlen, ← Nat.add_assoc]; exact hrow9) hcl (RExN.grownX HXC.out hgq hgr9) hns' (fun q e => ?_)
      have hlt := (hrow9.lt q e).2
      have e : g' = q := by injection e
      exact ⟨by omega, hlt⟩
    · have hrec : pSetB L f'' (i' + 1 + 1) ((x :: ns.map num) ++ [num t.n]) = some R := by
        rcases HCS.out with ⟨_, h⟩ | ⟨h, _⟩
        · exact h
        · rw [show kComma = (⟨#[44]⟩ : ByteArray) from rfl, HQ.out] at h; cases h
      rw [← hmap] at hrec
      have HREC := Lib.hid hrec
      have hi2 : i' + 1 + 1 < L.length := hL.next HQ.out
      clear hrec hmap HCS
      go_wp2_with fail
      go_roundg f''
      case rel =>
        refine ⟨f'', i' + 1 + 1, ns ++ [n], _, Nat.le_refl _, by omega, HREC.out, hi2, hns', h7, hZ7, hK7, ?_, fun q e => by injection e with e; have e : g' = q := e; omega, hgr7, hsz7⟩
        rw [show 1 + (ns ++ [n]).length = 1 + ns.length + 1 by omega]
        exact hrow7
      case measure => omega
end Go.Proofs.YtijmnenojbfdnaaGreatDoor

namespace Go.Proofs.YtijmnenojbfdnaaGreatDoor
open Go.RowKit
def ExprC (L : List Tok) (f : Nat) : Prop := ∀ (g : Nat) (A : Option Addr) (c i least : Nat) (R : Ex × Nat) (q : Nat) (w : World), g ≤ q → q < w.heap.size → SlTk (Lt g) w (.slice A L.length c) L → IsPs w g A c L i → i < L.length → least ≤ 9 → exB L f i least = some R →
  Calls Tryz.prog 74 #[.pointer (some ⟨g, 0, none⟩), .int .i64 (least : Int)] w (RetX q g A c L R w)
def AtomC (L : List Tok) (f : Nat) : Prop := ∀ (g : Nat) (A : Option Addr) (c i : Nat) (R : Ex × Nat) (q : Nat) (w : World), g ≤ q → q < w.heap.size → SlTk (Lt g) w (.slice A L.length c) L → IsPs w g A c L i → i < L.length → atB L f i = some R →
  Calls Tryz.prog 122 #[.pointer (some ⟨g, 0, none⟩)] w (RetX q g A c L R w)
theorem isEx_num {D : Nat → Prop} {w : World} {n : Int} (hn : 0 ≤ n ∧ n ≤ 4) : IsEx 0 D w (.agg (numXs n)) (num n) :=
  ⟨.slice none 0 0, rfl, fit_small (z := 1) ⟨by decide, by decide⟩, ⟨fit_small (z := 2) ⟨by decide, by decide⟩, fit_small (z := n) ⟨hn.1, by omega⟩, Nat.zero_le _⟩, Nat.zero_le _, Sl.none_⟩
theorem isEx_var {D : Nat → Prop} {w : World} {s : ByteArray} (hs : s.size ≤ maxLen) : IsEx 0 D w (.agg #[.int .i64 2, .int .i64 0, .int .i64 0, .string ⟨#[]⟩, .string s, .slice none 0 0]) (.mk 2 ⟨0, 0, ⟨#[]⟩⟩ s []) :=
  ⟨.slice none 0 0, rfl, fit_small (z := 2) ⟨by decide, by decide⟩, ⟨fit_small (z := 0) ⟨by decide, by decide⟩, fit_small (z := 0) ⟨by decide, by decide⟩, Nat.zero_le _⟩, hs, Sl.none_⟩
theorem atB_step {L : List Tok} {f i : Nat} {R : Ex × Nat} (h : atB L f i = some R) : ∃ f' r, f = f' + 1 ∧ conB L i = some r ∧
    ((r = some R) ∨ (r = none ∧ ∃ t, L[i]? = some t ∧ ((t.kind = 1 ∧ keyB t.text = false ∧ R = (.mk 2 ⟨0, 0, ⟨#[]⟩⟩ t.text [], i + 1)) ∨
      (¬ (t.kind = 1 ∧ keyB t.text = false) ∧ isB L i kOpen = true ∧ ∃ x i', exB L f' (i + 1) 1 = some (x, i') ∧ isB L i' kShut = true ∧ R = (x, i' + 1))))) := by
  cases f with
  | zero => unfold atB at h; cases h
  | succ f =>
    unfold atB at h
    cases hc : conB L i with
    | none => rw [hc] at h; cases h
    | some r =>
      rw [hc] at h
      cases r with
      | some p => exact ⟨f, some p, rfl, rfl, .inl h⟩
      | none =>
        dsimp only at h
        cases ht : L[i]? with
        | none => rw [ht] at h; cases h
        | some t =>
          rw [ht] at h
          dsimp only at h
          refine ⟨f, none, rfl, rfl, .inr ⟨rfl, t, rfl, ?_⟩⟩
          by_cases hk : t.kind = 1 ∧ keyB t.text = false
          · rw [if_pos hk] at h
            injection h with h
            exact .inl ⟨hk.1, hk.2, h.symm⟩
          · rw [if_neg hk] at h
            by_cases ho : isB L i kOpen = true
            · rw [if_pos ho] at h
              cases hx : exB L f (i + 1) 1 with
              | none => rw [hx] at h; cases h
              | some p =>
                obtain ⟨x, i'⟩ := p
                rw [hx] at h
                dsimp only at h
                by_cases hs : isB L i' kShut = true
                · rw [if_pos hs] at h
                  injection h with h
                  exact .inr ⟨hk, ho, x, i', rfl, hs, h.symm⟩
                · rw [if_neg hs] at h; cases h
            · rw [if_neg ho] at h; cases h
theorem conB_next {L : List Tok} {i i' : Nat} {x : Ex} (h : conB L i = some (some (x, i'))) : i' = i + 1 := by
  obtain ⟨_, _, _, e⟩ := conB_some h
  exact e
theorem conB_kind {L : List Tok} {i i' : Nat} {x : Ex} {t : Tok} (h : conB L i = some (some (x, i'))) (ht : L[i]? = some t) : t.kind ≠ 5 := by
  intro e
  unfold conB at h
  rw [ht] at h
  dsimp only at h
  rw [if_neg (by rw [e]; decide), if_neg (by rw [e]; decide)] at h
  split at h
  · cases h
  · injection h with h; cases h
set_option maxHeartbeats 2000000 in
set_option maxRecDepth 100000 in
theorem atom_of (L : List Tok) (hL : TokOk L) (f : Nat) (hIH : ∀ f' < f, ExprC L f') : AtomC L f := by
  intro g A c i R q w hgq hqw hl h hi hr
  obtain ⟨f', r, rfl, hcon, hcase⟩ := atB_step hr
  have hex := hIH f' (by omega)
  have HEX := Lib.hid hex
  have HCS := Lib.hid hcase
  clear hIH hr hex hcase
  have hglt : g < w.heap.size := Blk.lt h
  have hLL := hL.len
  have hb1 := bone w (.cells #[.int .i64 0, .int .i64 0, .int .i64 0, .string ⟨#[]⟩, .string ⟨#[]⟩, .slice none 0 0] 28)
  have hR1 := Blk.new w 28 #[.int .i64 0, .int .i64 0, .int .i64 0, .string ⟨#[]⟩, .string ⟨#[]⟩, .slice none 0 0]
  go_enter Tryz.func122, Tryz.ntmps122
  go_upto_region 1 with fail
  generalize hw1 : w.alloc (.cells #[.int .i64 0, .int .i64 0, .int .i64 0, .string ⟨#[]⟩, .string ⟨#[]⟩, .slice none 0 0] 28) = w1 at *
  clear hw1
  have h1 := IsPs.now h hb1
  have hg1 := grown_of_below hb1 (some g)
  have hl1 := Sl.below hl RTok.kept (hb1.mono (Nat.le_of_lt hglt)) (Nat.le_refl _)
  have hc := constant_any g A c L i r w1 hi hL.len g (Nat.le_trans (Nat.le_of_lt hglt) hb1.size) hl1 h1 hcon
  have HC := Lib.hid hc
  have hcon0 := Lib.hid hcon
  clear hc hcon h1 hl1 hb1 h
  have hvis : ∀ (e : Ending) (w2 : World), RetCon g A c L i r w1 e w2 → ∃ xs fl, e = .returned (.tuple #[.agg xs, .bool fl]) := by
    rintro e w2 ⟨h, _⟩
    cases r with
    | none => exact ⟨_, _, h.1⟩
    | some p => obtain ⟨n, _, h, _⟩ := h; exact ⟨_, _, h⟩
  cases r with
  | some p =>
    have hRp : p = R := by
      rcases HCS.out with h | ⟨h, _⟩
      · injection h
      · cases h
    subst hRp
    obtain ⟨x, i'⟩ := p
    clear hvis HCS HEX
    go_wp2_with fail
    refine HC.out.mono ?_
    rintro e w2 ⟨⟨n, rfl, rfl, h2, t, ht, rfl⟩, hg2⟩
    have hn := hL.num t (List.mem_of_getElem? ht)
    have HN := Lib.hid hn
    have HI' := Lib.hid (show i' < L.length from Nat.lt_of_le_of_lt (Nat.le_of_eq (conB_next hcon0.out)) (hL.more i t ht (conB_kind hcon0.out ht)))
    have hR2 := hR1.grown hg2 (fun e => by injection e with e; omega)
    have hg02 := lexGrownT hg1 hg2
    clear hn HC hR1 hg2 hg1
    have hT3 := Blk.new w2 28 #[.int .i64 1, .int .i64 2, .int .i64 t.n, .string ⟨#[]⟩, .string ⟨#[]⟩, .slice none 0 0]
    have hb3 := bone w2 (.cells #[.int .i64 1, .int .i64 2, .int .i64 t.n, .string ⟨#[]⟩, .string ⟨#[]⟩, .slice none 0 0] 28)
    have hR3 := hR2.now hb3
    have h3 := IsPs.now h2 hb3
    have hg3 := lexGrownT hg02 (grown_of_below hb3 (some g))
    unfold numXs
    go_upto_region 2 with fail
    generalize hw3 : w2.alloc (.cells #[.int .i64 1, .int .i64 2, .int .i64 t.n, .string ⟨#[]⟩, .string ⟨#[]⟩, .slice none 0 0] 28) = w3 at *
    clear hw3 hR2 h2 hg02 hb3
    obtain ⟨c0, c1, c2⟩ := (show Blk w3 g 114 #[.slice A L.length c, .int .i64 (i' : Int), .bool false] from h3).c3
    obtain ⟨r0, r1, r2, r3, r4, r5⟩ := hR3.c6
    obtain ⟨t0, t1, t2, t3, t4, t5⟩ := hT3.c6
    have f0 := hR3.frozen 0
    have f1 := hR3.frozen 1
    have f2 := hR3.frozen 2
    have f3 := hR3.frozen 3
    have f4 := hR3.frozen 4
    have f5 := hR3.frozen 5
    go_wp2_with fail
    obtain ⟨s0, s1, s2, s3, s4, s5⟩ := (hR3.set6' (.int .i64 1) (.int .i64 2) (.int .i64 t.n) (.string ⟨#[]⟩) (.string ⟨#[]⟩) (.slice none 0 0)).c6
    refine bodyPost_ret (v := .agg (numXs t.n)) (by simp [results, Tryz.results122, go_sem, s0, s1, s2, s3, s4, s5, numXs]) rfl ?_
    exact ⟨0, _, rfl, isEx_num HN.out, Blk.far6 h3 (by omega) _ _ _ _ _ _, HI'.out, grown6' hg3 (Nat.le_refl _) _ _ _ _ _ _⟩
  | none =>
    have hcase := HCS.out.resolve_left (by intro h; cases h)
    obtain ⟨_, t', ht', hcs⟩ := hcase
    have HCT := Lib.hid hcs
    have HT' := Lib.hid ht'
    clear hvis HCS hcs ht'
    go_wp2_with fail
    refine HC.out.mono ?_
    rintro e w2 ⟨⟨rfl, h2⟩, hg2⟩
    have hR2 := hR1.grown hg2 (fun e => by injection e with e; omega)
    have hg02 := lexGrownT hg1 hg2
    have hsz2 := Nat.le_trans hR1.lt hg2.size
    clear HC hR1 hg2 hg1
    have hb3 := bone w2 (.cells #[.int .i64 0, .int .i64 0, .int .i64 0, .string ⟨#[]⟩, .string ⟨#[]⟩, .slice none 0 0] 28)
    have hR3 := hR2.now hb3
    have h3 := IsPs.now h2 hb3
    have hg3 := lexGrownT hg02 (grown_of_below hb3 (some g))
    have hsz3 := Nat.le_trans hsz2 hb3.size
    unfold zeroXs
    go_upto_region 2 with fail
    generalize hw3 : w2.alloc (.cells #[.int .i64 0, .int .i64 0, .int .i64 0, .string ⟨#[]⟩, .string ⟨#[]⟩, .slice none 0 0] 28) = w3 at *
    clear hw3 hR2 h2 hg02 hb3 hsz2
    obtain ⟨c0, c1, c2⟩ := (show Blk w3 g 114 #[.slice A L.length c, .int .i64 (i : Int), .bool false] from h3).c3
    go_upto_region 4 with fail
    have hl3 := Sl.below hl RTok.kept (below_of_grown hg3 (Nat.le_of_lt hglt) (fun q e => by injection e with e; omega)) (Nat.le_refl _)
    obtain ⟨b, o, t, rfl, hbg, hx, t0, t1, t2, t3, t4⟩ := SlTk.at_ hl3 hi
    have htt : t' = t := by have := HT'.out.symm.trans hx; injection this
    subst htt
    have i1 : (0 : Int) ≤ (i : Int) := by omega
    have i2 : (i : Int) < (L.length : Int) := by omega
    have hb0 := bone w3 (.cells #[.int .i64 0, .string ⟨#[]⟩, .int .i64 0, .int .i64 0, .int .i64 0] 117)
    obtain ⟨z0, z1, z2⟩ := (show Blk _ g 114 #[.slice (some ⟨b, o, none⟩) L.length c, .int .i64 (i : Int), .bool false] from IsPs.now h3 hb0).c3
    have hbl : b < w3.heap.size := World.block_lt_of_cell? _ _ t0
    have y0 := (hb0.cell (p := ⟨b, o + i * 5, none⟩) hbl).trans t0
    have y1 := (hb0.cell (p := ⟨b, o + i * 5 + 1, none⟩) hbl).trans t1
    have y2 := (hb0.cell (p := ⟨b, o + i * 5 + 2, none⟩) hbl).trans t2
    have y3 := (hb0.cell (p := ⟨b, o + i * 5 + 3, none⟩) hbl).trans t3
    have y4 := (hb0.cell (p := ⟨b, o + i * 5 + 4, none⟩) hbl).trans t4
    have hbt := (bone w3 (.cells #[.int .i64 t'.kind, .string t'.text, .int .i64 t'.n, .int .i64 1, .int .i64 t'.col] 117)).drew
    have hT4 := (Blk.new w3 117 #[.int .i64 t'.kind, .string t'.text, .int .i64 t'.n, .int .i64 1, .int .i64 t'.col]).drew
    have hR4 := hR3.now hbt
    have h4 := IsPs.now h3 hbt
    have hg4 := lexGrownT hg3 (grown_of_below hbt (some g))
    have hsz4 := Nat.le_trans hsz3 hbt.size
    have HX := Lib.hid hx
    clear hx HT'
    go_region
    generalize hw4 : (w3.alloc (.cells #[.int .i64 t'.kind, .string t'.text, .int .i64 t'.n, .int .i64 1, .int .i64 t'.col] 117)).drew = w4 at *
    have hT4lt := hT4.lt
    have hlt3 : g < w3.heap.size := by omega
    have hltR : w.heap.size < w3.heap.size := by omega
    generalize hkt : w3.heap.size = kt at *
    clear hw4 hkt hR3 h3 hg3 hl3 c0 c1 c2 z0 z1 z2 t0 t1 t2 t3 t4 y0 y1 y2 y3 y4 hb0 hbl hbt hsz3
    obtain ⟨t0, t1, t2, t3, t4⟩ := hT4.c5
    have hk5 : t'.kind = 1 → i + 1 < L.length := fun e => hL.more i t' HX.out (by rw [e]; decide)
    have htx := hL.text t' (List.mem_of_getElem? HX.out)
    have HTX := Lib.hid htx
    have HK5 := Lib.hid hk5
    clear hk5 htx
    by_cases hk1 : t'.kind = 1
    · have d1 : (t'.kind == 1) = true := by simpa using hk1
      have HK1 := Lib.hid hk1
      clear hk1
      have hky := key_any t'.text w4
      obtain ⟨qk, hqk⟩ : ∃ qk, keyB t'.text = qk := ⟨_, rfl⟩
      rw [hqk] at hky
      have HKY := Lib.hid hky
      have HQK := Lib.hid hqk
      clear hky hqk
      go_wp2_with fail
      refine HKY.out.mono ?_
      rintro e w5 ⟨rfl, rfl⟩
      clear HKY
      cases qk
      · have hRv : R = (.mk 2 ⟨0, 0, ⟨#[]⟩⟩ t'.text [], i + 1) := by
          rcases HCT.out with ⟨_, _, h⟩ | ⟨h, _⟩
          · exact h
          · exact absurd ⟨HK1.out, HQK.out⟩ h
        subst hRv
        obtain ⟨c0, c1, c2⟩ := (show Blk w4 g 114 #[.slice (some ⟨b, o, none⟩) L.length c, .int .i64 (i : Int), .bool false] from h4).c3
        have f1 := h4.frozen 1
        have e1 : ((i + 1 : Nat) : Int) = (i : Int) + 1 := by omega
        go_upto_region 7 with fail
        have h5 := h4.set_ 1 (.int .i64 ((i : Int) + 1))
        have hR5 := hR4.far (p := ⟨g, 1, none⟩) (show w.heap.size ≠ g by omega) (.int .i64 ((i : Int) + 1))
        have hT5 := hT4.far (p := ⟨g, 1, none⟩) (show kt ≠ g by omega) (.int .i64 ((i : Int) + 1))
        have hg5 := lexGrownT hg4 (lexGrownS w4 g 1 (.int .i64 ((i : Int) + 1)))
        generalize hw5 : w4.setCell ⟨g, 1, none⟩ (.int .i64 ((i : Int) + 1)) = w5 at *
        clear hw5 hR4 h4 hg4 hT4 t0 t1 t2 t3 t4 c0 c1 c2 f1 hT4lt hsz4
        obtain ⟨t0, t1, t2, t3, t4⟩ := hT5.c5
        obtain ⟨r0, r1, r2, r3, r4, r5⟩ := hR5.c6
        have f0 := hR5.frozen 0
        have f1 := hR5.frozen 1
        have f2 := hR5.frozen 2
        have f3 := hR5.frozen 3
        have f4 := hR5.frozen 4
        have f5 := hR5.frozen 5
        go_wp2_with fail
        obtain ⟨s0, s1, s2, s3, s4, s5⟩ := (hR5.set6' (.int .i64 2) (.int .i64 0) (.int .i64 0) (.string ⟨#[]⟩) (.string t'.text) (.slice none 0 0)).c6
        refine bodyPost_ret (v := .agg #[.int .i64 2, .int .i64 0, .int .i64 0, .string ⟨#[]⟩, .string t'.text, .slice none 0 0]) (by simp [results, Tryz.results122, go_sem, s0, s1, s2, s3, s4, s5]) rfl ?_
        refine ⟨0, _, rfl, isEx_var HTX.out, ?_, HK5.out HK1.out, grown6' hg5 (Nat.le_refl _) _ _ _ _ _ _⟩
        unfold IsPs
        rw [e1]
        exact Blk.far6 h5 (by omega) _ _ _ _ _ _
      · exfalso
        have ho : isB L i kOpen = true := by
          rcases HCT.out with ⟨_, h, _⟩ | ⟨_, h, _⟩
          · rw [HQK.out] at h; cases h
          · exact h
        have he : t'.text = kOpen := by
          unfold isB at ho
          rw [HX.out] at ho
          simp only [Bool.and_eq_true, decide_eq_true_eq] at ho
          exact ho.1
        have := HQK.out
        rw [he] at this
        exact absurd this (by rw [show keyB kOpen = false by kernel_rfl]; decide)
    · have d1 : (t'.kind == 1) = false := by simpa using hk1
      have hcs : isB L i kOpen = true ∧ ∃ x i', exB L f' (i + 1) 1 = some (x, i') ∧ isB L i' kShut = true ∧ R = (x, i' + 1) := by
        rcases HCT.out with ⟨h, _⟩ | ⟨_, h, h'⟩
        · exact absurd h hk1
        · exact ⟨h, h'⟩
      obtain ⟨ho, x, i', hex, hs, hRe⟩ := hcs
      subst hRe
      have HHS := Lib.hid hs
      have HHX := Lib.hid hex
      have hi1 := hL.next ho
      have hl4 := Sl.below hl RTok.kept (below_of_grown hg4 (Nat.le_of_lt hglt) (fun q e => by injection e with e; omega)) (Nat.le_refl _)
      have hnd := need_any g (some ⟨b, o, none⟩) c L i kOpen w4 hi (Lt g) hl4 hL.len h4 ho
      unfold kOpen at hnd
      have HND := Lib.hid hnd
      clear hk1 HCT ho hs hex hnd hl4
      go_wp2_with fail
      refine HND.out.mono ?_
      rintro e w5 ⟨rfl, h5, hg45⟩
      have hR5 := hR4.grown hg45 (fun e => by injection e with e; omega)
      have hg5 := lexGrownT hg4 hg45
      have hsz5 := Nat.le_trans hsz4 hg45.size
      clear hR4 h4 hg4 hT4 t0 t1 t2 t3 t4 hg45 HND hsz4
      obtain ⟨c0, c1, c2⟩ := (show Blk w5 g 114 #[.slice (some ⟨b, o, none⟩) L.length c, .int .i64 (((i + 1 : Nat)) : Int), .bool false] from h5).c3
      have hl5 := Sl.below hl RTok.kept (below_of_grown hg5 (Nat.le_of_lt hglt) (fun q e => by injection e with e; omega)) (Nat.le_refl _)
      have hcx := HEX.out g (some ⟨b, o, none⟩) c (i + 1) 1 (x, i') w.heap.size w5 (by omega) hsz5 hl5 h5 hi1 (by omega) HHX.out
      have HCX := Lib.hid hcx
      clear hcx hl5 HHX
      go_wp2_with fail
      refine HCX.out.mono ?_
      rintro e w6 ⟨m, xv, rfl, hx6, h6, hi6, hg56⟩
      have hR6 := hR5.grown hg56 (fun e => by injection e with e; omega)
      have hg6 := lexGrownT hg5 hg56
      have hsz6 := Nat.le_trans hsz5 hg56.size
      clear hR5 h5 hg5 hg56 HCX c0 c1 c2 hsz5
      obtain ⟨lv, rfl, _, Ax, cx, rfl⟩ := hx6.cells
      dsimp only at h6 hi6 hx6
      have hT7 := Blk.new w6 28 #[.int .i64 x.op, .int .i64 x.v.kind, .int .i64 x.v.n, .string x.v.s, .string x.s, .slice Ax x.l.length cx]
      have hb7 := bone w6 (.cells #[.int .i64 x.op, .int .i64 x.v.kind, .int .i64 x.v.n, .string x.v.s, .string x.s, .slice Ax x.l.length cx] 28)
      have hR7 := hR6.now hb7
      have h7 := IsPs.now h6 hb7
      have hx7 := hx6.grownX (show g ≤ w.heap.size by omega) (grown_of_below hb7 (some g))
      have hg7 := lexGrownT hg6 (grown_of_below hb7 (some g))
      have hsz7 := Nat.le_trans hsz6 hb7.size
      go_upto_region 12 with fail
      generalize hw7 : w6.alloc (.cells #[.int .i64 x.op, .int .i64 x.v.kind, .int .i64 x.v.n, .string x.v.s, .string x.s, .slice Ax x.l.length cx] 28) = w7 at *
      have hT7lt := hT7.lt
      have hk6 : g < w6.heap.size := by omega
      have hk7 : w.heap.size < w6.heap.size := by omega
      generalize hkt6 : w6.heap.size = k6 at *
      clear hw7 hkt6 hR6 h6 hg6 hx6 hb7 hsz6
      have hl7 := Sl.below hl RTok.kept (below_of_grown hg7 (Nat.le_of_lt hglt) (fun q e => by injection e with e; omega)) (Nat.le_refl _)
      have hnd := need_any g (some ⟨b, o, none⟩) c L i' kShut w7 hi6 (Lt g) hl7 hL.len h7 HHS.out
      unfold kShut at hnd
      have HND := Lib.hid hnd
      clear hnd hl7
      go_wp2_with fail
      refine HND.out.mono ?_
      rintro e w8 ⟨rfl, h8, hg78⟩
      have hR8 := hR7.grown hg78 (fun e => by injection e with e; omega)
      have hT8 := hT7.grown hg78 (fun e => by injection e with e; omega)
      have hx8 := hx7.grownX (show g ≤ w.heap.size by omega) hg78
      have hg8 := lexGrownT hg7 hg78
      clear hR7 h7 hg7 hT7 hg78 HND hx7
      obtain ⟨t0, t1, t2, t3, t4, t5⟩ := hT8.c6
      obtain ⟨r0, r1, r2, r3, r4, r5⟩ := hR8.c6
      have f0 := hR8.frozen 0
      have f1 := hR8.frozen 1
      have f2 := hR8.frozen 2
      have f3 := hR8.frozen 3
      have f4 := hR8.frozen 4
      have f5 := hR8.frozen 5
      go_wp2_with fail
      obtain ⟨s0, s1, s2, s3, s4, s5⟩ := (hR8.set6' (.int .i64 x.op) (.int .i64 x.v.kind) (.int .i64 x.v.n) (.string x.v.s) (.string x.s) (.slice Ax x.l.length cx)).c6
      refine bodyPost_ret (v := .agg #[.int .i64 x.op, .int .i64 x.v.kind, .int .i64 x.v.n, .string x.v.s, .string x.s, .slice Ax x.l.length cx]) (by simp [results, Tryz.results122, go_sem, s0, s1, s2, s3, s4, s5]) rfl ?_
      exact ⟨m, _, rfl, (hx8.far6X (Nat.le_refl _) (.int .i64 x.op) (.int .i64 x.v.kind) (.int .i64 x.v.n) (.string x.v.s) (.string x.s) (.slice Ax x.l.length cx)).lowX (Nat.le_of_lt hqw), Blk.far6 h8 (by omega) (.int .i64 x.op) (.int .i64 x.v.kind) (.int .i64 x.v.n) (.string x.v.s) (.string x.s) (.slice Ax x.l.length cx), hL.next HHS.out, grown6' hg8 (Nat.le_refl _) (.int .i64 x.op) (.int .i64 x.v.kind) (.int .i64 x.v.n) (.string x.v.s) (.string x.s) (.slice Ax x.l.length cx)⟩
end Go.Proofs.YtijmnenojbfdnaaGreatDoor

namespace Go.Proofs.YtijmnenojbfdnaaGreatDoor
open Go.RowKit
def stopB (L : List Tok) (i least top : Nat) : Bool := decide (opB L i = 0 ∨ levB (opB L i) < least ∨ top < askB (opB L i))
def LoopOk (L : List Tok) (f i least : Nat) (x : Ex) (top : Nat) (R : Ex × Nat) : Prop := loopB L f i least x top = some R
theorem exB_step {L : List Tok} {f i least : Nat} {R : Ex × Nat} (h : exB L f i least = some R) : ∃ f', f = f' + 1 ∧ ¬ (least ≤ 1 ∧ isB L i kIf = true) ∧
    ((least ≤ 4 ∧ isB L i kNot = true ∧ ∃ y i', exB L f' (i + 1) 4 = some (y, i') ∧ LoopOk L f' i' least (nodeB 3 [y]) 4 R) ∨
     (¬ (least ≤ 4 ∧ isB L i kNot = true) ∧ ∃ x i', atB L f' i = some (x, i') ∧ LoopOk L f' i' least x 8 R)) := by
  cases f with
  | zero => unfold exB at h; cases h
  | succ f =>
    unfold exB at h
    by_cases h1 : least ≤ 1 ∧ isB L i kIf = true
    · rw [if_pos h1] at h; cases h
    · rw [if_neg h1] at h
      refine ⟨f, rfl, h1, ?_⟩
      by_cases h2 : least ≤ 4 ∧ isB L i kNot = true
      · rw [if_pos h2] at h
        cases hx : exB L f (i + 1) 4 with
        | none => rw [hx] at h; cases h
        | some p =>
          rw [hx] at h
          exact .inl ⟨h2.1, h2.2, p.1, p.2, rfl, h⟩
      · rw [if_neg h2] at h
        cases hx : atB L f i with
        | none => rw [hx] at h; cases h
        | some p =>
          rw [hx] at h
          exact .inr ⟨h2, p.1, p.2, rfl, h⟩
theorem loopB_step {L : List Tok} {f i least top : Nat} {x : Ex} {R : Ex × Nat} (h : LoopOk L f i least x top R) : ∃ f', f = f' + 1 ∧
    ((stopB L i least top = true ∧ R = (x, i)) ∨
     (stopB L i least top = false ∧ opB L i = 13 ∧ isB L (i + 1) kLeft = true ∧ ∃ l i', pSetB L f' (i + 1 + 1) [x] = some (l, i') ∧ LoopOk L f' i' least (nodeB 13 l) 5 R) ∨
     (stopB L i least top = false ∧ opB L i ≠ 13 ∧ ∃ y i', exB L f' (i + 1) (levB (opB L i) + 1) = some (y, i') ∧ LoopOk L f' i' least (nodeB (opB L i) [x, y]) (levB (opB L i)) R)) := by
  unfold LoopOk at h
  cases f with
  | zero => unfold loopB at h; cases h
  | succ f =>
    unfold loopB at h
    refine ⟨f, rfl, ?_⟩
    by_cases h1 : opB L i = 0 ∨ levB (opB L i) < least ∨ top < askB (opB L i)
    · rw [if_pos h1] at h
      injection h with h
      exact .inl ⟨decide_eq_true h1, h.symm⟩
    · rw [if_neg h1] at h
      have h1 := decide_eq_false h1
      by_cases h2 : opB L i = 13
      · rw [if_pos h2] at h
        by_cases h3 : isB L (i + 1) kLeft = true
        · rw [if_pos h3] at h
          cases hx : pSetB L f (i + 2) [x] with
          | none => rw [hx] at h; cases h
          | some p =>
            rw [hx] at h
            exact .inr (.inl ⟨h1, h2, h3, p.1, p.2, rfl, h⟩)
        · rw [if_neg h3] at h; cases h
      · rw [if_neg h2] at h
        cases hx : exB L f (i + 1) (levB (opB L i) + 1) with
        | none => rw [hx] at h; cases h
        | some p =>
          rw [hx] at h
          exact .inr (.inr ⟨h1, h2, p.1, p.2, rfl, h⟩)
theorem opB_lt (L : List Tok) (i : Nat) : opB L i ≤ 13 := by
  unfold opB
  by_cases h : isB L i kIn = true
  · rw [if_pos h]; omega
  · rw [if_neg h]
    cases hf : signL.findIdx? (isB L i) with
    | none => exact Nat.zero_le _
    | some k =>
      have hk := (List.findIdx?_eq_some_iff_getElem.1 hf).1
      have : signL.length = 8 := rfl
      show k + 4 ≤ 13
      omega
theorem levB_le (op : Nat) : levB op ≤ 8 := by unfold levB; (repeat' split) <;> omega
theorem opB_is {L : List Tok} {i : Nat} (h : opB L i ≠ 0) : ∃ s, isB L i s = true := by
  unfold opB at h
  by_cases h1 : isB L i kIn = true
  · exact ⟨_, h1⟩
  · rw [if_neg h1] at h
    cases hf : signL.findIdx? (isB L i) with
    | none => rw [hf] at h; exact absurd rfl h
    | some k =>
      obtain ⟨hk, hq, _⟩ := List.findIdx?_eq_some_iff_getElem.1 hf
      exact ⟨_, hq⟩
theorem isEx_cells {m : Nat} {D : Nat → Prop} {w : World} {x : Ex} {lv : Value} (h : IsEx m D w (.agg #[.int .i64 x.op, .int .i64 x.v.kind, .int .i64 x.v.n, .string x.v.s, .string x.s, lv]) x) : RExN (m + 1) D w x [.int .i64 x.op, .int .i64 x.v.kind, .int .i64 x.v.n, .string x.v.s, .string x.s, lv] := by
  obtain ⟨lv', e, h1, h2, h3, h4⟩ := h
  have e : lv = lv' := by injection e with e; injection e with e; injection e with _ e; injection e with _ e; injection e with _ e; injection e with _ e; injection e with _ e; injection e with e
  subst e
  exact ⟨lv, rfl, h1, h2, h3, h4⟩
theorem row1_ex {q m base t : Nat} {w : World} {x : Ex} {Ax : Option Addr} {cx : Nat} {v : Value} (h : w.ownsRow base t 6 v 1 [.int .i64 x.op, .int .i64 x.v.kind, .int .i64 x.v.n, .string x.v.s, .string x.s, .slice Ax x.l.length cx]) (hx : IsEx m (DX q w) w (.agg #[.int .i64 x.op, .int .i64 x.v.kind, .int .i64 x.v.n, .string x.v.s, .string x.s, .slice Ax x.l.length cx]) x) (hq : q < base) : SlE (m + 1) (DX q w) w v [x] := by
  refine Sl.of_own h rfl (fun k hk => ⟨Nat.lt_of_lt_of_le hq (h.lt k hk).1, (h.lt k hk).2⟩) fun i y hy => ?_
  match i, hy with
  | 0, hy =>
    have hy : x = y := by simpa using hy
    subst hy
    exact ⟨[.int .i64 x.op, .int .i64 x.v.kind, .int .i64 x.v.n, .string x.v.s, .string x.s, .slice Ax x.l.length cx], rfl, fun j u hu => by rw [Nat.zero_mul, Nat.zero_add]; exact hu, isEx_cells hx⟩
theorem row2_ex {q m m' base t : Nat} {w : World} {x y : Ex} {Ax Ay : Option Addr} {cx cy : Nat} {v : Value} (h : w.ownsRow base t 6 v 2 [.int .i64 x.op, .int .i64 x.v.kind, .int .i64 x.v.n, .string x.v.s, .string x.s, .slice Ax x.l.length cx, .int .i64 y.op, .int .i64 y.v.kind, .int .i64 y.v.n, .string y.v.s, .string y.s, .slice Ay y.l.length cy]) (hx : IsEx m (DX q w) w (.agg #[.int .i64 x.op, .int .i64 x.v.kind, .int .i64 x.v.n, .string x.v.s, .string x.s, .slice Ax x.l.length cx]) x) (hy : IsEx m' (DX q w) w (.agg #[.int .i64 y.op, .int .i64 y.v.kind, .int .i64 y.v.n, .string y.v.s, .string y.s, .slice Ay y.l.length cy]) y) (hq : q < base) : SlE (max m m' + 1) (DX q w) w v [x, y] := by
  refine Sl.of_own h rfl (fun k hk => ⟨Nat.lt_of_lt_of_le hq (h.lt k hk).1, (h.lt k hk).2⟩) fun i z hz => ?_
  match i, hz with
  | 0, hz =>
    have hz : x = z := by simpa using hz
    subst hz
    refine ⟨[.int .i64 x.op, .int .i64 x.v.kind, .int .i64 x.v.n, .string x.v.s, .string x.s, .slice Ax x.l.length cx], rfl, fun j u hu => ?_, RExN.up _ _ (by omega) _ _ _ _ (isEx_cells hx)⟩
    rw [Nat.zero_mul, Nat.zero_add]
    have hj : j < 6 := (List.getElem?_eq_some_iff.1 hu).1
    match j, hj, hu with
    | 0, _, hu | 1, _, hu | 2, _, hu | 3, _, hu | 4, _, hu | 5, _, hu => exact hu
  | 1, hz =>
    have hz : y = z := by simpa using hz
    subst hz
    refine ⟨[.int .i64 y.op, .int .i64 y.v.kind, .int .i64 y.v.n, .string y.v.s, .string y.s, .slice Ay y.l.length cy], rfl, fun j u hu => ?_, RExN.up _ _ (by omega) _ _ _ _ (isEx_cells hy)⟩
    have hj : j < 6 := (List.getElem?_eq_some_iff.1 hu).1
    match j, hj, hu with
    | 0, _, hu | 1, _, hu | 2, _, hu | 3, _, hu | 4, _, hu | 5, _, hu => exact hu
end Go.Proofs.YtijmnenojbfdnaaGreatDoor

namespace Go.Proofs.YtijmnenojbfdnaaGreatDoor
def unlisted (listed : Array Bool) : Nat := (listed.toList.filter (fun b => !b)).length
theorem unlisted_list (l : List Bool) : ∀ i, l[i]? = some false → ((l.set i true).filter (fun b => !b)).length + 1 = (l.filter (fun b => !b)).length := by
  induction l with
  | nil => intro i h; simp at h
  | cons b l ih =>
    intro i h
    cases i with
    | zero => simp at h; subst h; simp
    | succ i =>
      have := ih i (by simpa using h)
      cases b
      · simp only [List.set_cons_succ, List.filter_cons, Bool.not_false, if_true, List.length_cons]; omega
      · simp only [List.set_cons_succ, List.filter_cons, Bool.not_true, Bool.false_eq_true, if_false]; omega
theorem unlisted_set {listed : Array Bool} {i : Nat} (h : listed.getD i true = false) : unlisted (listed.setIfInBounds i true) + 1 = unlisted listed := by
  have hi : i < listed.size := by
    rcases Nat.lt_or_ge i listed.size with h' | h'
    · exact h'
    · simp [Array.getElem?_eq_none h'] at h
  have hb : listed[i] = false := by simpa [hi] using h
  unfold unlisted
  rw [Array.toList_setIfInBounds]
  exact unlisted_list _ i (by simp [hi, hb])
theorem wpAny_inv {P : Program} {ops : Array Oper} {md : Region.Mode} {Q : Exit → Act → World → Prop} (J : Array Bool → Act → World → Prop)
    (hstep : ∀ listed a w i, J listed a w → i ∈ Region.ready md ops listed → wpOp P ops Q i (J (listed.setIfInBounds i true)) a w)
    (hend : ∀ listed a w, J listed a w → Region.ready md ops listed = [] → Q .normal a w) :
    ∀ (fuel : Nat) (listed : Array Bool) (a : Act) (w : World), unlisted listed ≤ fuel → J listed a w → wpAny P md ops Q fuel listed a w := by
  intro fuel
  induction fuel with
  | zero =>
    intro listed a w hf hJ
    have hr : Region.ready md ops listed = [] := by
      cases h : Region.ready md ops listed with
      | nil => rfl
      | cons i l =>
        have hi : i ∈ Region.ready md ops listed := by rw [h]; simp
        have := unlisted_set (mem_ready.1 hi).1
        omega
    exact ⟨hr, hend _ _ _ hJ hr⟩
  | succ fuel ih =>
    intro listed a w hf hJ
    refine ⟨fun hr => hend _ _ _ hJ hr, fun i hi => ?_⟩
    exact wpOp_mono (fun a' w' h' => ih _ a' w' (by have := unlisted_set (mem_ready.1 hi).1; omega) h') (hstep listed a w i hJ hi)
theorem wp_region_inv {P : Program} {ops : Array Oper} {id : Nat} {Q : Exit → Act → World → Prop} {a : Act} {w : World} (hm : P.follows .mixedOrders = true) (J : Array Bool → Act → World → Prop)
    (h0 : J (Array.replicate ops.size false) a w.drew)
    (hstep : ∀ listed a w i, J listed a w → i ∈ Region.ready .any ops listed → wpOp P ops Q i (J (listed.setIfInBounds i true)) a w)
    (hend : ∀ listed a w, J listed a w → Region.ready .any ops listed = [] → Q .normal a w) : (Code.region id ops true).wp P Q a w := by
  refine wp_region_any hm (wpAny_inv J hstep hend _ _ _ _ ?_ h0)
  unfold unlisted
  exact Nat.le_trans (List.length_filter_le _ _) (by simp)
def Act.slot (a : Act) (s : Nat) : Value := a.tmps.getD s undef
def upd (σ : Nat → Value) (d : Option Tmp) (v : Value) : Nat → Value := match d with | some d => fun s => if s = d then v else σ s | none => σ
theorem slot_put {a : Act} {d : Option Tmp} {v : Value} (h : ∀ k, d = some k → k < a.tmps.size) : Act.slot (a.put d v) = upd (Act.slot a) d v := by
  cases d with
  | none => rfl
  | some d =>
    funext s
    have hd := h d rfl
    simp only [Act.slot, Act.put, upd, Array.getD_eq_getD_getElem?, Array.getElem?_setIfInBounds]
    by_cases hs : s = d
    · subst hs; simp [hd]
    · rw [if_neg (fun e => hs e.symm), if_neg hs]
theorem size_put (a : Act) (d : Option Tmp) (v : Value) : (a.put d v).tmps.size = a.tmps.size := by cases d <;> simp [Act.put]
theorem defers_put (a : Act) (d : Option Tmp) (v : Value) : (a.put d v).defers = a.defers := by cases d <;> rfl
structure Kin (l : List Oper) (a0 a : Act) : Prop where
  size : a.tmps.size = a0.tmps.size
  defers : a.defers = a0.defers
  slots : ∀ s, (∀ o ∈ l, o.dst ≠ some s) → Act.slot a s = Act.slot a0 s
theorem Kin.refl (l : List Oper) (a : Act) : Kin l a a := ⟨rfl, rfl, fun _ _ => rfl⟩
theorem Kin.put {l : List Oper} {a0 a : Act} (h : Kin l a0 a) (hd : ∀ o ∈ l, ∀ k, o.dst = some k → k < a0.tmps.size) {o : Oper} (ho : o ∈ l) (v : Value) : Kin l a0 (a.put o.dst v) ∧ Act.slot (a.put o.dst v) = upd (Act.slot a) o.dst v := by
  have e := slot_put (a := a) (d := o.dst) (v := v) (fun k hk => by rw [h.size]; exact hd o ho k hk)
  refine ⟨⟨(size_put _ _ _).trans h.size, (defers_put _ _ _).trans h.defers, fun s hs => ?_⟩, e⟩
  rw [e, ← h.slots s hs]
  have := hs o ho
  cases hk : o.dst with
  | none => rfl
  | some d =>
    simp only [upd]
    rw [if_neg]
    intro e'
    subst e'
    exact this hk
def Up (listed : Array Bool) (j : Nat) : Prop := listed.getD j false = true
structure Shut (l : List Oper) (listed : Array Bool) : Prop where
  size : listed.size = l.length
  closed : ∀ j oj, l[j]? = some oj → Up listed j → ∀ e ∈ oj.after, Region.binds .any e = true → Up listed e.on
theorem Shut.start (l : List Oper) : Shut l (Array.replicate l.length false) :=
  ⟨by simp, fun j oj _ hl => by unfold Up at hl; rw [getD_replicate_false] at hl; cases hl⟩
theorem Shut.up {l : List Oper} {listed : Array Bool} {j i : Nat} (h : Shut l listed) (hj : Up listed j) (hw : Region.waitsFor .any l.toArray j i = true) : Up listed i := by
  obtain ⟨oj, hoj, e, he, hb, rfl⟩ := Region.waitsFor_spec hw
  exact h.closed j oj (by simpa using hoj) hj e he hb
theorem ready_up {l : List Oper} {listed : Array Bool} {i j : Nat} (hi : i ∈ Region.ready .any l.toArray listed) (hw : Region.waitsFor .any l.toArray i j = true) : Up listed j := by
  obtain ⟨_, o, ho, hall⟩ := mem_ready.1 hi
  obtain ⟨oj, hoj, e, he, hb, rfl⟩ := Region.waitsFor_spec hw
  have : oj = o := Option.some.inj (hoj.symm.trans ho)
  subst this
  exact hall e he hb
theorem ready_not {l : List Oper} {listed : Array Bool} {i : Nat} (hi : i ∈ Region.ready .any l.toArray listed) : ¬ Up listed i := by
  unfold Up
  rw [getD_both (mem_ready.1 hi).1]
  simp
theorem Shut.set {l : List Oper} {listed : Array Bool} {i : Nat} (h : Shut l listed) (hi : i ∈ Region.ready .any l.toArray listed) : Shut l (listed.setIfInBounds i true) := by
  obtain ⟨_, oi, hoi, hall⟩ := mem_ready.1 hi
  refine ⟨by simp [h.size], fun j oj hj hl e he hb => ?_⟩
  unfold Up at hl ⊢
  by_cases hij : i = j
  · subst hij
    have : oj = oi := Option.some.inj ((show l.toArray[i]? = some oj by simpa using hj).symm.trans hoi)
    subst this
    exact getD_set_true (hall e he hb)
  · rw [getD_set_ne false hij] at hl
    exact getD_set_true (h.closed j oj hj hl e he hb)
theorem up_set {listed : Array Bool} {i j : Nat} (h : Up (listed.setIfInBounds i true) j) (hij : i ≠ j) : Up listed j := by
  unfold Up at *
  rwa [getD_set_ne false hij] at h
def Steps (P : Program) (l : List Oper) (Q : Exit → Act → World → Prop) (a0 : Act) (K : Array Bool → (Nat → Value) → World → Prop) : Nat → List Oper → Prop
  | _, [] => True
  | i, o :: rest => (∀ listed (a : Act) w, Shut l listed → i ∈ Region.ready .any l.toArray listed → Kin l a0 a → K listed (Act.slot a) w →
      o.wp P a w (fun a' w' => ∃ v, a' = a.put o.dst v ∧ K (listed.setIfInBounds i true) (upd (Act.slot a) o.dst v) w') Q) ∧ Steps P l Q a0 K (i + 1) rest
theorem Steps.at_ {P : Program} {l : List Oper} {Q : Exit → Act → World → Prop} {a0 : Act} {K : Array Bool → (Nat → Value) → World → Prop} : ∀ (m : List Oper) (k i : Nat) (o : Oper), Steps P l Q a0 K k m → m[i]? = some o →
    ∀ listed (a : Act) w, Shut l listed → (k + i) ∈ Region.ready .any l.toArray listed → Kin l a0 a → K listed (Act.slot a) w →
      o.wp P a w (fun a' w' => ∃ v, a' = a.put o.dst v ∧ K (listed.setIfInBounds (k + i) true) (upd (Act.slot a) o.dst v) w') Q := by
  intro m
  induction m with
  | nil => intro k i o _ h; simp at h
  | cons x m ih =>
    intro k i o hs h
    cases i with
    | zero => injection h with h; subst h; exact hs.1
    | succ i =>
      have := ih (k + 1) i o hs.2 (by simpa using h)
      rwa [show k + 1 + i = k + (i + 1) from by omega] at this
def dstsB (l : List Oper) (n : Nat) : Bool := l.all fun o => o.guard.isNone && match o.dst with | some k => decide (k < n) | none => true
theorem wp_region_slots {P : Program} {l : List Oper} {id : Nat} {Q : Exit → Act → World → Prop} {a0 : Act} {w : World} (hm : P.follows .mixedOrders = true)
    (hB : dstsB l a0.tmps.size = true) (K : Array Bool → (Nat → Value) → World → Prop)
    (h0 : K (Array.replicate l.length false) (Act.slot a0) w.drew) (hstep : Steps P l Q a0 K 0 l)
    (hend : ∀ listed (a : Act) w, (∀ i, i < l.length → Up listed i) → Kin l a0 a → K listed (Act.slot a) w → Q .normal a w) (hall : ∀ listed, Shut l listed → Region.ready .any l.toArray listed = [] → ∀ i, i < l.length → Up listed i) : (Code.region id l.toArray true).wp P Q a0 w := by
  unfold dstsB at hB
  rw [List.all_eq_true] at hB
  refine wp_region_inv hm (fun listed a w => Shut l listed ∧ Kin l a0 a ∧ K listed (Act.slot a) w) ⟨by simpa using Shut.start l, Kin.refl _ _, by simpa using h0⟩ ?_ (fun listed a w h hr => hend listed a w (hall listed h.1 hr) h.2.1 h.2.2)
  rintro listed a w i ⟨hsh, hk, hK⟩ hi
  obtain ⟨_, o, ho, _⟩ := mem_ready.1 hi
  have ho' : l[i]? = some o := by simpa using ho
  have hmem : o ∈ l := List.mem_of_getElem? ho'
  have hb := hB o hmem
  rw [Bool.and_eq_true] at hb
  unfold wpOp
  rw [ho]
  have hw : Region.wanted o (yielded l.toArray a.tmps) = true := by simp [Region.wanted, Option.isNone_iff_eq_none.1 hb.1]
  simp only [hw, if_true]
  left
  refine Oper.wp_mono ?_ (by have := hstep.at_ l 0 i o ho' listed a w hsh (by rwa [Nat.zero_add]) hk hK; rwa [Nat.zero_add] at this)
  rintro a' w' ⟨v, rfl, h⟩
  obtain ⟨k1, k2⟩ := hk.put (fun o' ho' k hk' => by
    have := hB o' ho'
    rw [Bool.and_eq_true, hk'] at this
    simpa using this.2) hmem v
  exact ⟨hsh.set hi, k1, by rw [k2]; exact h⟩
end Go.Proofs.YtijmnenojbfdnaaGreatDoor

namespace Go.Proofs.YtijmnenojbfdnaaGreatDoor
open Go.RowKit
def dstOf (l : List Oper) (j : Nat) : Nat := ((l[j]?).bind (·.dst)).getD 0
def apartB (l : List Oper) (n : Nat) : Bool := (List.range n).all fun i => match (l[i]?).bind (·.dst) with
  | none => false
  | some a => (List.range l.length).all fun j => i == j || match (l[j]?).bind (·.dst) with
    | none => true
    | some b => a != b
def lastB (l : List Oper) (n : Nat) : Bool := (List.range n).all fun i => Region.waitsFor .any l.toArray n i
def StepsM (P : Program) (l : List Oper) (Q : Exit → Act → World → Prop) (a0 : Act) (w0 : World) (F : Nat → Value → World → Prop) : Nat → List Oper → Prop
  | _, [] => True
  | i, o :: rest => (∀ (a : Act) W, Kin l a0 a → Below w0.heap.size w0 W → (∀ j, Region.waitsFor .any l.toArray i j = true → F j (Act.slot a (dstOf l j)) W) →
      o.wp P a W (fun a' W' => ∃ v, a' = a.put o.dst v ∧ Below W.heap.size W W' ∧ F i v W') Q) ∧ StepsM P l Q a0 w0 F (i + 1) rest
theorem StepsM.at_ {P : Program} {l : List Oper} {Q : Exit → Act → World → Prop} {a0 : Act} {w0 : World} {F : Nat → Value → World → Prop} : ∀ (m : List Oper) (k i : Nat) (o : Oper), StepsM P l Q a0 w0 F k m → m[i]? = some o →
    ∀ (a : Act) W, Kin l a0 a → Below w0.heap.size w0 W → (∀ j, Region.waitsFor .any l.toArray (k + i) j = true → F j (Act.slot a (dstOf l j)) W) →
      o.wp P a W (fun a' W' => ∃ v, a' = a.put o.dst v ∧ Below W.heap.size W W' ∧ F (k + i) v W') Q := by
  intro m
  induction m with
  | nil => intro k i o _ h; simp at h
  | cons x m ih =>
    intro k i o hs h
    cases i with
    | zero => injection h with h; subst h; exact hs.1
    | succ i =>
      have := ih (k + 1) i o hs.2 (by simpa using h)
      rwa [show k + 1 + i = k + (i + 1) from by omega] at this
theorem steps_all {P : Program} {l : List Oper} {Q : Exit → Act → World → Prop} {a0 : Act} {K : Array Bool → (Nat → Value) → World → Prop} (h : ∀ (i : Nat) (o : Oper), l[i]? = some o →
    ∀ listed (a : Act) w, Shut l listed → i ∈ Region.ready .any l.toArray listed → Kin l a0 a → K listed (Act.slot a) w →
      o.wp P a w (fun a' w' => ∃ v, a' = a.put o.dst v ∧ K (listed.setIfInBounds i true) (upd (Act.slot a) o.dst v) w') Q) : Steps P l Q a0 K 0 l := by
  have gen : ∀ (m : List Oper) (k : Nat), (∀ i o, m[i]? = some o → l[k + i]? = some o) → Steps P l Q a0 K k m := by
    intro m
    induction m with
    | nil => intro k _; trivial
    | cons x m ih =>
      intro k hk
      refine ⟨fun listed a w => h k x (by simpa using hk 0 x rfl) listed a w, ih (k + 1) fun i o ho => ?_⟩
      have := hk (i + 1) o (by simpa using ho)
      rwa [show k + (i + 1) = k + 1 + i by omega] at this
  exact gen l 0 (fun i o ho => by rw [Nat.zero_add]; exact ho)
end Go.Proofs.YtijmnenojbfdnaaGreatDoor

namespace Go.Proofs.YtijmnenojbfdnaaGreatDoor
def TailPost (P : Program) (l : List Oper) (n : Nat) (Q : Exit → Act → World → Prop) : Exit → Act → World → Prop
  | .normal, a, w => wpList P l.toArray Q (l.drop n) a w
  | e, a, w => Q e a w
def earlyB (l : List Oper) : Bool := (List.range l.length).all fun j => match l[j]? with
  | some o => o.guard.isNone && o.after.all fun e => !Region.binds .any e || decide (e.on < j)
  | none => true
theorem early_spec {l : List Oper} (h : earlyB l = true) {j : Nat} {o : Oper} (hj : l[j]? = some o) : o.guard = none ∧ ∀ e ∈ o.after, Region.binds .any e = true → e.on < j := by
  have hlt : j < l.length := by
    rcases Nat.lt_or_ge j l.length with h' | h'
    · exact h'
    · rw [List.getElem?_eq_none h'] at hj; cases hj
  have h1 := List.all_eq_true.1 h j (List.mem_range.2 hlt)
  rw [hj] at h1
  simp only [Bool.and_eq_true, Array.all_eq_true_iff_forall_mem, Bool.or_eq_true, Bool.not_eq_true', decide_eq_true_eq] at h1
  refine ⟨Option.isNone_iff_eq_none.1 h1.1, fun e he hb => (h1.2 e he).resolve_left (by rw [hb]; simp)⟩
def tailB (l : List Oper) (n : Nat) : Bool := earlyB l && decide (n < l.length) && Region.sinkB .any l.toArray n && Region.chainB .any l.toArray n && Region.seqB .any l.toArray (l.length - n) n (Array.replicate n true ++ Array.replicate (l.length - n) false)
theorem unlisted_zero {L : Array Bool} (h : unlisted L = 0) : ∀ i, i < L.size → L.getD i false = true := by
  intro i hi
  unfold unlisted at h
  have h0 := List.eq_nil_of_length_eq_zero h
  rw [List.filter_eq_nil_iff] at h0
  have := h0 L[i] (by simp)
  simpa [hi] using this
theorem unlisted_pos {L : Array Bool} {f : Nat} (h : unlisted L = f + 1) : ∃ i, i < L.size ∧ L.getD i true = false := by
  unfold unlisted at h
  cases hl : L.toList.filter (fun b => !b) with
  | nil => rw [hl] at h; simp at h
  | cons b l =>
    have hb : b ∈ L.toList.filter (fun b => !b) := by rw [hl]; simp
    rw [List.mem_filter] at hb
    obtain ⟨i, hi, e⟩ := List.mem_iff_getElem.1 hb.1
    have hi' : i < L.size := by simpa using hi
    refine ⟨i, hi', ?_⟩
    have hbf : b = false := by simpa using hb.2
    have : L[i] = false := by rw [← hbf, ← e]; simp
    simp [hi', this]
section
variable {P : Program} {l : List Oper} {n : Nat} {Q : Exit → Act → World → Prop}
theorem first_ready (hE : earlyB l = true) {L : Array Bool} (hs : L.size = l.length) : ∀ (i : Nat), i < L.size → L.getD i true = false → ∃ j, j ≤ i ∧ j ∈ Region.ready .any l.toArray L := by
  intro i
  induction i using Nat.strongRecOn with
  | _ i ih =>
    intro hi hun
    have hi' : i < l.length := by omega
    by_cases hr : i ∈ Region.ready .any l.toArray L
    · exact ⟨i, Nat.le_refl _, hr⟩
    · have ho : l[i]? = some l[i] := List.getElem?_eq_getElem hi'
      have hsp := early_spec hE ho
      have : ∃ e ∈ l[i].after, Region.binds .any e = true ∧ L.getD e.on false = false := by
        apply Classical.byContradiction
        intro hno
        refine hr (mem_ready.2 ⟨hun, l[i], by simp, fun e he hb => ?_⟩)
        cases h : L.getD e.on false with
        | true => rfl
        | false => exact absurd ⟨e, he, hb, h⟩ hno
      obtain ⟨e, he, hb, hf⟩ := this
      have hlt := hsp.2 e he hb
      obtain ⟨j, hj, hr'⟩ := ih e.on hlt (by omega) (getD_in (by omega) hf)
      exact ⟨j, by omega, hr'⟩
theorem wpAny_tail (hE : earlyB l = true) (hs : Region.sinkB .any l.toArray n = true) (hc : Region.chainB .any l.toArray n = true) (hn : n < l.length)
    (hq : Region.seqB .any l.toArray (l.length - n) n (Array.replicate n true ++ Array.replicate (l.length - n) false) = true) :
    ∀ (f : Nat) (L' L : Array Bool) (a : Act) (w : World), L'.size = n → unlisted L' = f → HeadInv .any l.toArray n L → (∀ i b, i < n → L.getD i b = L'.getD i b) →
      wpAny P .any (l.take n).toArray (TailPost P l n Q) f L' a w → wpAny P .any l.toArray Q (f + (l.length - n)) L a w := by
  intro f
  induction f with
  | zero =>
    intro L' L a w hs' hu inv hR h
    rw [Nat.zero_add]
    have hL : L = Array.replicate n true ++ Array.replicate (l.length - n) false := by
      apply Array.ext
      · rw [inv.size]; simp; omega
      · intro i h1 h2
        rcases Nat.lt_or_ge i n with hi | hi
        · have := hR i false hi
          rw [unlisted_zero hu i (by omega)] at this
          rw [Array.getElem_append_left (by simpa using hi)]
          simpa [h1] using this
        · have := inv.tail i hi (by rw [← inv.size]; exact h1)
          rw [Array.getElem_append_right (by simpa using hi)]
          simpa [h1] using this
    have h2 : wpList P l.toArray Q (l.drop n) a w := h.2
    have := wpAny_of_seq (md := .any) (P := P) (ops := l.toArray) (Q' := Q) (l.drop n) n L a w (fun j => by simp [List.getElem?_drop]) (by rw [List.length_drop, hL]; exact hq) h2
    rwa [List.length_drop] at this
  | succ f ih =>
    intro L' L a w hs' hu inv hR h
    rw [show f + 1 + (l.length - n) = (f + (l.length - n)) + 1 by omega]
    obtain ⟨i0, hi0, hun0⟩ := unlisted_pos hu
    have hi0n : i0 < n := by omega
    have hun : L.getD i0 true = false := by rw [hR i0 true hi0n]; exact hun0
    have hnot : ∀ t, n ≤ t → t ∉ Region.ready .any l.toArray L := tail_waits hs hc (by simpa using hn) inv _ i0 rfl hi0n hun
    refine ⟨fun hr => ?_, fun i hi => ?_⟩
    · obtain ⟨j, _, hj⟩ := first_ready hE (L := L) (by simpa using inv.size) i0 (by rw [inv.size]; simp; omega) hun
      rw [hr] at hj; cases hj
    · have hin : i < n := by
        rcases Nat.lt_or_ge i n with h' | h'
        · exact h'
        · exact absurd hi (hnot i h')
      obtain ⟨hiu, o, ho, hall⟩ := mem_ready.1 hi
      have ho' : l[i]? = some o := by simpa using ho
      have hsp := early_spec hE ho'
      have hot : (l.take n).toArray[i]? = some o := by simp [hin, ho']
      have hi' : i ∈ Region.ready .any (l.take n).toArray L' := mem_ready.2 ⟨by rw [← hR i true hin]; exact hiu, o, hot, fun e he hb => by
        have h1 := hsp.2 e he hb
        rw [← hR e.on false (by omega)]
        exact hall e he hb⟩
      have h1 := h.2 i hi'
      have hw : ∀ ops : Array Oper, Region.wanted o (yielded ops a.tmps) = true := fun ops => by simp [Region.wanted, hsp.1]
      unfold wpOp at h1 ⊢
      rw [hot] at h1
      rw [ho]
      simp only [hw, if_true] at h1 ⊢
      have hstep : ∀ a' w', wpAny P .any (l.take n).toArray (TailPost P l n Q) f (L'.setIfInBounds i true) a' w' → wpAny P .any l.toArray Q (f + (l.length - n)) (L.setIfInBounds i true) a' w' := by
        intro a' w' h2
        refine ih (L'.setIfInBounds i true) (L.setIfInBounds i true) a' w' (by simpa using hs') ?_ (inv.set hi hin) ?_ h2
        · have := unlisted_set (listed := L') (i := i) (by rw [← hR i true hin]; exact hiu)
          omega
        · intro k b hk
          by_cases hik : i = k
          · subst hik
            have hiL : i < L.size := by rw [inv.size]; simp; omega
            have hiL' : i < L'.size := by omega
            simp [hiL, hiL']
          · rw [getD_set_ne b hik, getD_set_ne b hik]; exact hR k b hk
      rcases h1 with h1 | ⟨h1, a0, w0, h2⟩
      · left
        unfold Oper.wp at h1 ⊢
        generalize (execOp a.eval o).run P w = r at h1 ⊢
        cases r with
        | ok x w' =>
          cases x <;> simp only [Oper.upon] at h1 ⊢ <;>
            first
              | exact hstep _ _ h1
              | exact Calls.mono h1 (fun e w'' he => by cases e <;> first | exact hstep _ _ he | exact he)
              | exact Rows.mono h1 (fun _ _ he => hstep _ _ he)
        | halt x w' => cases x <;> simp only [Oper.upon] at h1 ⊢ <;> exact h1
      · exact .inr ⟨h1, a0, w0, h2⟩
theorem wp_region_held_tail {id : Nat} {a : Act} {w : World} (n : Nat) (S : World → Prop) (hm : P.follows .mixedOrders = true) (hB : tailB l n = true) (hS : S w.drew)
    (h : S w.drew → wpAnyH P .any (l.take n).toArray (TailPost P l n Q) S n (Array.replicate n false) a w.drew) : (Code.region id l.toArray true).wp P Q a w := by
  unfold tailB at hB
  simp only [Bool.and_eq_true, decide_eq_true_eq] at hB
  obtain ⟨⟨⟨⟨h1, h2⟩, h3⟩, h4⟩, h5⟩ := hB
  refine wp_region_any hm ?_
  have inv0 : HeadInv .any l.toArray n (Array.replicate l.toArray.size false) :=
    ⟨by simp, fun j oj _ hl => (by rw [getD_replicate_false] at hl; cases hl), fun t _ ht => getD_in (by simpa using ht) (getD_replicate_false _ _)⟩
  have hu : unlisted (Array.replicate n false) = n := by unfold unlisted; simp
  have := wpAny_tail (P := P) (Q := Q) h1 h3 h4 h2 h5 n (Array.replicate n false) _ a w.drew (by simp) hu inv0 (fun i b hi => by
    have h' : i < l.length := by omega
    simp [hi, h']) (wpAny_of_held _ _ _ _ (h hS))
  rw [show n + (l.length - n) = l.toArray.size by simp; omega] at this
  exact this
theorem takeL {S : World → Prop} {a : Act} {w : World} {v : Value} {oi : Oper} {fuel : Nat} {listed : Array Bool} (i : Nat) (hi : l[i]? = some oi) (hs : Region.noSelect l.toArray = true) (hf : Region.free .any l.toArray listed i = true)
    (hr : (Region.ready .any l.toArray listed).contains i = true) (hQ : ∀ c a w, Q (.panic c) (a.put oi.dst v) w → Q (.panic c) a w) (hg : oi.guard = none) (hy : ∀ W, S W → (execOp a.eval oi).run P W = .ok (.value v) W) (hS : S w)
    (h : wpAnyH P .any l.toArray Q S fuel (listed.setIfInBounds i true) (a.put oi.dst v) w) : wpAnyH P .any l.toArray Q S (fuel + 1) listed a w :=
  wpAnyH_take (by simpa using hi) hs hf hr hQ (.inl ⟨by simp [Region.wanted, hg], hy⟩) hS h
theorem onlyL {S : World → Prop} {a : Act} {w : World} {oi : Oper} {fuel : Nat} {listed : Array Bool} (i : Nat) (hi : l[i]? = some oi) (hg : oi.guard = none) (hr : Region.ready .any l.toArray listed = [i])
    (h : ∀ K' : Act → World → Prop, Go.Shut (∀ a w, S w → (S w → wpAnyH P .any l.toArray Q S fuel (listed.setIfInBounds i true) a w) → K' a w) → Oper.wp P oi a w K' Q) : wpAnyH P .any l.toArray Q S (fuel + 1) listed a w := by
  refine wpAnyH_ready hr (by simp) (AllReadyH.cons (by simpa using hi) (fun K' hK => ?_) AllReadyH.nil)
  rw [if_pos (by simp [Region.wanted, hg])]
  exact h K' hK
theorem doneL {S : World → Prop} {a : Act} {w : World} {l' : List Oper} {n fuel : Nat} {listed : Array Bool} (hr : Region.ready .any l'.toArray listed = []) (h : wpList P l.toArray Q (l.drop n) a w) : wpAnyH P .any l'.toArray (TailPost P l n Q) S fuel listed a w :=
  wpAnyH_done hr h fuel
end
end Go.Proofs.YtijmnenojbfdnaaGreatDoor

namespace Go.Proofs.YtijmnenojbfdnaaGreatDoor
open Go.RowKit
section
variable {P : Program} {o : Oper} {a : Act} {w : World} {K : Act → World → Prop} {Q : Exit → Act → World → Prop}
theorem wpM_load (t : TypeId) (x : Operand) (p V : Value) (ho : o.op = .load t x) (hv : a.eval x = p) (hr : (Instr.loadAt t p).run P w = .ok V w) (h : K (a.put o.dst V) w) : o.wp P a w K Q := by
  unfold Oper.wp execOp
  simp only [ho, hv, Sem.run_bind, hr, Result.andThen_ok]
  exact h
theorem wpM_slice (t : TypeId) (n : Nat) (parts : Array (Nat × Operand)) (V : Value) (w' : World) (vals : Array (Nat × Value)) (ho : o.op = .buildSlice t n parts) (hv : (parts.map fun (i, x) => (i, a.eval x)) = vals) (hr : (Instr.buildSlice t n vals).run P w = .ok V w') (h : K (a.put o.dst V) w') : o.wp P a w K Q := by
  unfold Oper.wp execOp
  simp only [ho, hv, Sem.run_bind, hr, Result.andThen_ok]
  exact h
theorem wpM_store (t : TypeId) (x y : Operand) (p V : Value) (w' : World) (u : Unit) (ho : o.op = .store t x y) (hv : a.eval x = p) (hv2 : a.eval y = V) (hr : (Instr.storeAt t p V).run P w = .ok u w') (h : K (a.put o.dst undef) w') : o.wp P a w K Q := by
  unfold Oper.wp execOp
  simp only [ho, hv, hv2, Sem.run_bind, hr, Result.andThen_ok]
  exact h
theorem wpM_run (V : Value) (w' : World) (hr : (execOp a.eval o).run P w = .ok (.value V) w') (h : K (a.put o.dst V) w') : o.wp P a w K Q := by
  unfold Oper.wp
  rw [hr]
  exact h
end
def noDstB (l : List Oper) (s : Nat) : Bool := l.all fun o => o.dst != some s
theorem Kin.same {l : List Oper} {a0 a : Act} (h : Kin l a0 a) {s : Nat} (hs : noDstB l s = true) : Act.slot a s = Act.slot a0 s :=
  h.slots s fun o ho e => by
    have := List.all_eq_true.1 hs o ho
    rw [e] at this
    simp at this
theorem hall_of {l : List Oper} (hE : earlyB l = true) : ∀ listed, Shut l listed → Region.ready .any l.toArray listed = [] → ∀ i, i < l.length → Up listed i := by
  intro listed hs hr i hi
  have hsz := hs.size
  cases h : listed.getD i true with
  | true =>
    unfold Up
    rw [Array.getD_eq_getD_getElem?, Array.getElem?_eq_getElem (by omega)] at h ⊢
    exact h
  | false =>
    obtain ⟨j, _, hj⟩ := first_ready hE hsz i (by omega) h
    rw [hr] at hj; cases hj
def putsAll (σ : Nat → Value) : List Oper → Act → Act
  | [], a => a
  | o :: l, a => putsAll σ l (a.put o.dst (σ (o.dst.getD 0)))
theorem puts_size (σ : Nat → Value) : ∀ (l : List Oper) (a : Act), (putsAll σ l a).tmps.size = a.tmps.size
  | [], a => rfl
  | o :: l, a => by rw [putsAll, puts_size σ l, size_put]
theorem puts_defers (σ : Nat → Value) : ∀ (l : List Oper) (a : Act), (putsAll σ l a).defers = a.defers
  | [], a => rfl
  | o :: l, a => by rw [putsAll, puts_defers σ l, defers_put]
theorem puts_slot (σ : Nat → Value) : ∀ (l : List Oper) (a : Act), (∀ o ∈ l, ∀ k, o.dst = some k → k < a.tmps.size) → ∀ s, Act.slot (putsAll σ l a) s = if (l.any fun o => o.dst == some s) = true then σ s else Act.slot a s
  | [], a, _, s => by simp [putsAll]
  | o :: l, a, h, s => by
    rw [putsAll, puts_slot σ l _ (fun o' ho' k hk => by rw [size_put]; exact h o' (by simp [ho']) k hk) s, slot_put (h o (by simp)), List.any_cons]
    cases hd : o.dst with
    | none => simp [upd]
    | some d =>
      by_cases hs : s = d
      · subst hs; simp [upd]
      · have hds : (some d == some s) = false := by simpa using fun e => hs e.symm
        simp [upd, hs, hds]
theorem act_ext {a b : Act} (h1 : a.tmps.size = b.tmps.size) (h2 : a.defers = b.defers) (h3 : ∀ s, Act.slot a s = Act.slot b s) : a = b := by
  obtain ⟨t, d⟩ := a
  obtain ⟨t', d'⟩ := b
  dsimp only at h1 h2
  subst h2
  congr 1
  refine Array.ext h1 fun i hi hi' => ?_
  have := h3 i
  simpa [Act.slot, hi, hi'] using this
theorem Kin.form {l : List Oper} {a0 a : Act} (h : Kin l a0 a) (hB : dstsB l a0.tmps.size = true) : a = putsAll (Act.slot a) l a0 := by
  have hd : ∀ o ∈ l, ∀ k, o.dst = some k → k < a0.tmps.size := fun o ho k hk => by
    unfold dstsB at hB
    rw [List.all_eq_true] at hB
    have := hB o ho
    rw [Bool.and_eq_true, hk] at this
    simpa using this.2
  refine act_ext ?_ ?_ fun s => ?_
  · rw [puts_size]; exact h.size
  · rw [puts_defers]; exact h.defers
  · rw [puts_slot _ _ _ hd]
    split
    · rfl
    · rename_i hn
      refine h.slots s fun o ho e => hn ?_
      rw [List.any_eq_true]
      exact ⟨o, ho, by rw [e]; simp⟩
def blkOf : Value → Nat
  | .pointer (some a) => a.block
  | .slice (some a) _ _ => a.block
  | _ => 0
def vOf (l : List Oper) (σ : Nat → Value) (j : Nat) : Value := match (l[j]?).bind (·.dst) with
  | some d => σ d
  | none => undef
def dsts2B (l : List Oper) : Bool := (List.range l.length).all fun i => (List.range l.length).all fun j => i == j || match (l[i]?).bind (·.dst), (l[j]?).bind (·.dst) with
  | some a, some b => a != b
  | _, _ => true
structure MkSt (n : Nat) (mk : Nat → Bool) (w0 : World) (F : Nat → (Nat → Value) → World → Prop) (listed : Array Bool) (τ : Nat → Value) (W : World) : Prop where
  below : Below w0.heap.size w0 W
  lo : ∀ i, i < n → mk i = true → Up listed i → w0.heap.size ≤ blkOf (τ i) ∧ blkOf (τ i) < W.heap.size
  apart : ∀ i j, i < n → j < n → mk i = true → mk j = true → Up listed i → Up listed j → i ≠ j → blkOf (τ i) ≠ blkOf (τ j)
  facts : ∀ j, j < n → Up listed j → F j τ W
end Go.Proofs.YtijmnenojbfdnaaGreatDoor

namespace Go.Proofs.YtijmnenojbfdnaaGreatDoor
open Go.RowKit
def StepsG (B : World → World → Prop) (c : Nat) (U : World → Prop) (P : Program) (l : List Oper) (Q : Exit → Act → World → Prop) (a0 : Act) (w0 : World) (F : Nat → Value → World → Prop) : Nat → List Oper → Prop
  | _, [] => True
  | i, o :: rest => (∀ (a : Act) W, Kin l a0 a → B w0 W → (i = c → U W) → (∀ j, Region.waitsFor .any l.toArray i j = true → F j (Act.slot a (dstOf l j)) W) →
      o.wp P a W (fun a' W' => ∃ v, a' = a.put o.dst v ∧ B W W' ∧ (i ≠ c → U W → U W') ∧ F i v W') Q) ∧ StepsG B c U P l Q a0 w0 F (i + 1) rest
theorem StepsG.at_ {B : World → World → Prop} {c : Nat} {U : World → Prop} {P : Program} {l : List Oper} {Q : Exit → Act → World → Prop} {a0 : Act} {w0 : World} {F : Nat → Value → World → Prop} : ∀ (m : List Oper) (k i : Nat) (o : Oper), StepsG B c U P l Q a0 w0 F k m → m[i]? = some o →
    ∀ (a : Act) W, Kin l a0 a → B w0 W → (k + i = c → U W) → (∀ j, Region.waitsFor .any l.toArray (k + i) j = true → F j (Act.slot a (dstOf l j)) W) →
      o.wp P a W (fun a' W' => ∃ v, a' = a.put o.dst v ∧ B W W' ∧ (k + i ≠ c → U W → U W') ∧ F (k + i) v W') Q := by
  intro m
  induction m with
  | nil => intro k i o _ h; simp at h
  | cons x m ih =>
    intro k i o hs h
    cases i with
    | zero => injection h with h; subst h; exact hs.1
    | succ i =>
      have := ih (k + 1) i o hs.2 (by simpa using h)
      rwa [show k + 1 + i = k + (i + 1) from by omega] at this
theorem wp_region_makeG {B : World → World → Prop} (hBr : ∀ w, B w w) (hBt : ∀ {a b c}, B a b → B b c → B a c) {P : Program} {l : List Oper} {id : Nat} {Q : Exit → Act → World → Prop} {a0 : Act} {w : World} (hm : P.follows .mixedOrders = true) (n : Nat)
    (hB : dstsB l a0.tmps.size = true) (hD : apartB l n = true) (hn : n + 1 = l.length) (hL : lastB l n = true) (F : Nat → Value → World → Prop) (c : Nat) (U : World → Prop) (hU0 : U w.drew)
    (hF : ∀ j v W W', F j v W → B W W' → F j v W') (hall : ∀ listed, Shut l listed → Region.ready .any l.toArray listed = [] → ∀ i, i < l.length → Up listed i)
    (hstep : StepsG B c U P l Q a0 w.drew F 0 (l.take n))
    (hlast : ∀ o, l[n]? = some o → ∀ (a : Act) W, Kin l a0 a → B w.drew W → (∀ j, j < n → F j (Act.slot a (dstOf l j)) W) →
      o.wp P a W (fun a' W' => ∃ v, a' = a.put o.dst v ∧ ∀ a'', Kin l a0 a'' → Act.slot a'' = Act.slot a' → Q .normal a'' W') Q) : (Code.region id l.toArray true).wp P Q a0 w := by
  refine wp_region_slots hm hB (fun listed σ W => (¬ Up listed n → B w.drew W ∧ (¬ Up listed c → U W) ∧ ∀ j, j < n → Up listed j → F j (σ (dstOf l j)) W) ∧ (Up listed n → ∀ a'', Kin l a0 a'' → Act.slot a'' = σ → Q .normal a'' W)) ⟨fun _ => ⟨hBr _, fun _ => hU0, fun j hj hu => ?_⟩, fun hu => ?_⟩ (steps_all fun i o ho listed a W hsh hi hk hK => ?_) (fun listed a W hu hk hK => hK.2 (hu n (by omega)) a hk rfl) hall
  · unfold Up at hu; rw [getD_replicate_false] at hu; cases hu
  · unfold Up at hu; rw [getD_replicate_false] at hu; cases hu
  · obtain ⟨hK1, hK2⟩ := hK
    have hil : i < l.length := by
      rcases Nat.lt_or_ge i l.length with h' | h'
      · exact h'
      · rw [List.getElem?_eq_none h'] at ho; cases ho
    have hwait : ∀ j, j < n → Region.waitsFor .any l.toArray n j = true := fun j hj => by
      unfold lastB at hL
      rw [List.all_eq_true] at hL
      exact hL j (List.mem_range.2 hj)
    have hnn : ¬ Up listed n := by
      intro hu
      by_cases e : i = n
      · subst e; exact ready_not hi hu
      · exact ready_not hi (hsh.up hu (hwait i (by omega)))
    obtain ⟨hb, hu0, hf⟩ := hK1 hnn
    have hsz : listed.size = l.length := hsh.size
    by_cases e : i = n
    · subst e
      refine Oper.wp_mono ?_ (hlast o ho a W hk hb (fun j hj => hf j hj (ready_up hi (hwait j hj))))
      rintro a' w' ⟨v, rfl, hq⟩
      refine ⟨v, rfl, fun hu => absurd ?_ hu, fun _ a'' hk'' hs => ?_⟩
      · unfold Up
        rw [Array.getD_eq_getD_getElem?, Array.getElem?_setIfInBounds]
        simp [hsz, hil]
      · refine hq a'' hk'' ?_
        rw [hs]
        have := (hk.put (fun o' ho' k hk' => ?_) (List.mem_of_getElem? ho) v).2
        · exact this.symm
        · unfold dstsB at hB
          rw [List.all_eq_true] at hB
          have := hB o' ho'
          rw [Bool.and_eq_true, hk'] at this
          simpa using this.2
    · have hin : i < n := by omega
      have hst := hstep.at_ (l.take n) 0 i o (by rw [List.getElem?_take, if_pos hin]; exact ho) a W hk hb (fun e => hu0 (fun hu => ready_not hi (by rw [← e, Nat.zero_add] at hu; exact hu))) (fun j hw => by
        rw [Nat.zero_add] at hw
        have hu := ready_up hi hw
        have hjn : j < n ∨ j = n ∨ n < j := by omega
        rcases hjn with h1 | h1 | h1
        · exact hf j h1 hu
        · subst h1; exact absurd hu hnn
        · exfalso
          unfold Up at hu
          rw [Array.getD_eq_getD_getElem?, Array.getElem?_eq_none (by rw [hsz]; omega)] at hu
          cases hu)
      rw [Nat.zero_add] at hst
      refine Oper.wp_mono ?_ hst
      rintro a' w' ⟨v, rfl, hb', hUi, hFi⟩
      have hdi : ∃ k, o.dst = some k ∧ ∀ j oj, j ≠ i → l[j]? = some oj → oj.dst ≠ some k := by
        unfold apartB at hD
        rw [List.all_eq_true] at hD
        have h1 := hD i (List.mem_range.2 hin)
        rw [ho] at h1
        simp only [Option.bind_some] at h1
        cases hk' : o.dst with
        | none => rw [hk'] at h1; cases h1
        | some k =>
          rw [hk'] at h1
          refine ⟨k, rfl, fun j oj hj hoj hd => ?_⟩
          dsimp only at h1
          rw [List.all_eq_true] at h1
          have hjl : j < l.length := by
            rcases Nat.lt_or_ge j l.length with h' | h'
            · exact h'
            · rw [List.getElem?_eq_none h'] at hoj; cases hoj
          have h2 := h1 j (List.mem_range.2 hjl)
          rw [hoj] at h2
          simp only [Option.bind_some, hd, Bool.or_eq_true, beq_iff_eq, bne_self_eq_false, or_false] at h2
          first | exact hj h2.symm | (rcases h2 with h2 | h2 <;> first | exact hj h2.symm | cases h2)
      obtain ⟨k, hdk, hapart⟩ := hdi
      refine ⟨v, rfl, fun _ => ⟨hBt hb hb', fun hnc => ?_, fun j hj hu => ?_⟩, fun hu => ?_⟩
      · by_cases hci : i = c
        · exact absurd (by subst hci; unfold Up; rw [Array.getD_eq_getD_getElem?, Array.getElem?_setIfInBounds]; simp [hsz, hil]) hnc
        · refine hUi hci (hu0 fun hu => hnc ?_)
          unfold Up at hu ⊢
          rw [Array.getD_eq_getD_getElem?, Array.getElem?_setIfInBounds, if_neg hci, ← Array.getD_eq_getD_getElem?]
          exact hu
      · by_cases hji : j = i
        · subst hji
          have : dstOf l j = k := by unfold dstOf; rw [ho]; simp [hdk]
          rw [this, hdk]
          simpa [upd] using hFi
        · have hu' := up_set hu (fun e => hji e.symm)
          have hjl : j < l.length := by omega
          have hne : dstOf l j ≠ k := by
            unfold dstOf
            rw [List.getElem?_eq_getElem hjl]
            have h3 := hapart j l[j] hji (List.getElem?_eq_getElem hjl)
            unfold apartB at hD
            rw [List.all_eq_true] at hD
            have h1 := hD j (List.mem_range.2 hj)
            rw [List.getElem?_eq_getElem hjl] at h1
            simp only [Option.bind_some] at h1 ⊢
            cases hk' : l[j].dst with
            | none => rw [hk'] at h1; cases h1
            | some q => rw [hk'] at h3; simpa using h3
          have := hF j _ W w' (hf j hj hu') hb'
          rw [hdk]
          simpa [upd, hne] using this
      · exact absurd (up_set hu e) hnn
end Go.Proofs.YtijmnenojbfdnaaGreatDoor
