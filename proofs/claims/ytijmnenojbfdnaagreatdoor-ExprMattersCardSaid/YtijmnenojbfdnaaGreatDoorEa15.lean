/- Texts of this seat, merged. -/
import Derived.Test.YtijmnenojbfdnaaGreatDoorEa01
import Derived.Test.YtijmnenojbfdnaaGreatDoorEa02
import Derived.Test.YtijmnenojbfdnaaGreatDoorEa03
import Derived.Test.YtijmnenojbfdnaaGreatDoorEa04
import Derived.Test.YtijmnenojbfdnaaGreatDoorEa05
import Derived.Test.YtijmnenojbfdnaaGreatDoorEa06
import Derived.Test.YtijmnenojbfdnaaGreatDoorEa07
import Derived.Test.YtijmnenojbfdnaaGreatDoorEa08
import Derived.Test.YtijmnenojbfdnaaGreatDoorEa12
import Derived.Test.YtijmnenojbfdnaaGreatDoorEa13
import Derived.Test.YtijmnenojbfdnaaGreatDoorEa14
set_option linter.unusedSimpArgs false
set_option linter.unusedVariables false
namespace Go.Proofs.YtijmnenojbfdnaaGreatDoor
open Go.RowKit
theorem appEx' : AppInfo Tryz.prog 26 28 6 := AppInfo.mk' (z := .agg zeroXs) (bytes := 80) Tryz.underlying26 (by kernel_rfl) (by omega) rfl (by omega)
theorem grownVia {w a b : World} {g : Nat} {row : Option Nat} (h : w.grownBy a (some g)) (k : a.grownBy b row) (hq : ∀ q, row = some q → w.heap.size ≤ q) : w.grownBy b (some g) :=
  ⟨k.os.trans h.os, k.tape.trans h.tape, k.output.trans h.output, Nat.le_trans h.size k.size, fun j hj hne => (k.block j (Nat.lt_of_lt_of_le hj h.size) (fun e => by have := hq j e.symm; omega)).trans (h.block j hj hne)⟩
theorem pSet_step {L : List Tok} {f i : Nat} {acc : List Ex} {R : List Ex × Nat} (h : pSetB L f i acc = some R) : ∃ f' y i', f = f' + 1 ∧ conB L i = some (some (y, i')) ∧ ((isB L i' kComma = true ∧ pSetB L f' (i' + 1) (acc ++ [y]) = some R) ∨ (isB L i' kComma = false ∧ isB L i' kRight = true ∧ R = (acc ++ [y], i' + 1))) := by
  cases f with
  | zero => cases h
  | succ f =>
    unfold pSetB at h
    cases hc : conB L i with
    | none => rw [hc] at h; cases h
    | some r =>
      cases r with
      | none => rw [hc] at h; cases h
      | some p =>
        obtain ⟨y, i'⟩ := p
        rw [hc] at h
        dsimp only at h
        refine ⟨f, y, i', rfl, rfl, ?_⟩
        by_cases h1 : isB L i' kComma = true
        · rw [if_pos h1] at h; exact .inl ⟨h1, h⟩
        · rw [if_neg h1] at h
          by_cases h2 : isB L i' kRight = true
          · rw [if_pos h2] at h
            injection h with h
            exact .inr ⟨by simpa using h1, h2, h.symm⟩
          · rw [if_neg h2] at h; cases h
theorem RExN.grownX {n q g : Nat} {w w' : World} {cs : List Value} {x : Ex} (h : RExN n (DX q w) w x cs) (hq : g ≤ q) (hg : w.grownBy w' (some g)) : RExN n (DX q w') w' x cs :=
  RExN.kept n _ _ _ _ _ _ (fun _ hb => ⟨hb.1, Nat.lt_of_lt_of_le hb.2 hg.size⟩) (DX.same hq hg) h
theorem isEx_node {D : Nat → Prop} {w : World} {lv : Value} {l : List Ex} {m : Nat} (op : Nat) (h : SlE m D w lv l) (hop : op ≤ 100) : IsEx m D w (.agg #[.int .i64 (op : Int), .int .i64 0, .int .i64 0, .string ⟨#[]⟩, .string ⟨#[]⟩, lv]) (nodeB op l) :=
  ⟨lv, rfl, fit_small (z := (op : Int)) ⟨by omega, by omega⟩, ⟨fit_small (z := 0) ⟨by decide, by decide⟩, fit_small (z := 0) ⟨by decide, by decide⟩, Nat.zero_le _⟩, Nat.zero_le _, h⟩
set_option maxHeartbeats 800000 in
set_option maxRecDepth 100000 in
theorem set_any (q0 g : Nat) (hgq : g ≤ q0) (A : Option Addr) (c : Nat) (L : List Tok) (hL : TokOk L) (f i : Nat) (x : Ex) (m : Nat) (xv : Value) (R : List Ex × Nat) (w : World) (hf : f ≤ 1000) (hl : SlTk (Lt g) w (.slice A L.length c) L) (h : IsPs w g A c L i) (hqw : q0 < w.heap.size) (hx : IsEx m (DX q0 w) w xv x)
    (hq : isB L i kLeft = true) (hr : pSetB L f (i + 1) [x] = some R) :
    Calls Tryz.prog 124 #[.pointer (some ⟨g, 0, none⟩), xv] w (RetX q0 g A c L (nodeB 13 R.1, R.2) w) := by
  obtain ⟨lv, rfl, hx6, Al, cl, rfl⟩ := hx.cells
  have hglt : g < w.heap.size := Blk.lt h
  have HR := Lib.hid hr
  have HX6 := Lib.hid hx6
  clear hr hx6 hx
  go_enter Tryz.func124, Tryz.ntmps124
  go_upto_region 2 with fail
  have hbw : Below w.heap.size w ((((w.alloc (.cells #[.int .i64 x.op, .int .i64 x.v.kind, .int .i64 x.v.n, .string x.v.s, .string x.s, .slice Al x.l.length cl] 28)).alloc (.cells #[.int .i64 0, .int .i64 0, .int .i64 0, .string ⟨#[]⟩, .string ⟨#[]⟩, .slice none 0 0] 28)).alloc (.cells #[.int .i64 x.op, .int .i64 x.v.kind, .int .i64 x.v.n, .string x.v.s, .string x.s, .slice Al x.l.length cl] 28)).alloc (.cells #[.int .i64 13, .int .i64 0, .int .i64 0, .string ⟨#[]⟩, .string ⟨#[]⟩, .slice (some ⟨w.heap.size + 1 + 1, 0, none⟩) 1 1] 28)) := bbox (bbox (bbox (bone w _) _) _) _
  have hZ := ((Blk.new_at (t := 28) (cs := #[.int .i64 0, .int .i64 0, .int .i64 0, .string ⟨#[]⟩, .string ⟨#[]⟩, .slice none 0 0]) (w := (w.alloc (.cells #[.int .i64 x.op, .int .i64 x.v.kind, .int .i64 x.v.n, .string x.v.s, .string x.s, .slice Al x.l.length cl] 28))) (s := w.heap.size + 1) (World.size_alloc _ _)).alloc (.cells #[.int .i64 x.op, .int .i64 x.v.kind, .int .i64 x.v.n, .string x.v.s, .string x.s, .slice Al x.l.length cl] 28)).alloc (.cells #[.int .i64 13, .int .i64 0, .int .i64 0, .string ⟨#[]⟩, .string ⟨#[]⟩, .slice (some ⟨w.heap.size + 1 + 1, 0, none⟩) 1 1] 28)
  have hK := Blk.new_at (t := 28) (cs := #[.int .i64 13, .int .i64 0, .int .i64 0, .string ⟨#[]⟩, .string ⟨#[]⟩, .slice (some ⟨w.heap.size + 1 + 1, 0, none⟩) 1 1]) (w := (((w.alloc (.cells #[.int .i64 x.op, .int .i64 x.v.kind, .int .i64 x.v.n, .string x.v.s, .string x.s, .slice Al x.l.length cl] 28)).alloc (.cells #[.int .i64 0, .int .i64 0, .int .i64 0, .string ⟨#[]⟩, .string ⟨#[]⟩, .slice none 0 0] 28)).alloc (.cells #[.int .i64 x.op, .int .i64 x.v.kind, .int .i64 x.v.n, .string x.v.s, .string x.s, .slice Al x.l.length cl] 28))) (s := w.heap.size + 1 + 1 + 1) (by rw [World.size_alloc, World.size_alloc, World.size_alloc])
  have hrow0 := own_now (World.ownsRow_lit (base := w.heap.size + 1 + 1) (e := 28) (size := 6) ((w.alloc (.cells #[.int .i64 x.op, .int .i64 x.v.kind, .int .i64 x.v.n, .string x.v.s, .string x.s, .slice Al x.l.length cl] 28)).alloc (.cells #[.int .i64 0, .int .i64 0, .int .i64 0, .string ⟨#[]⟩, .string ⟨#[]⟩, .slice none 0 0] 28)) #[.int .i64 x.op, .int .i64 x.v.kind, .int .i64 x.v.n, .string x.v.s, .string x.s, .slice Al x.l.length cl] 1 (by rw [World.size_alloc, World.size_alloc]; exact Nat.le_refl _) (by unfold maxLen; omega) rfl) (bone (((w.alloc (.cells #[.int .i64 x.op, .int .i64 x.v.kind, .int .i64 x.v.n, .string x.v.s, .string x.s, .slice Al x.l.length cl] 28)).alloc (.cells #[.int .i64 0, .int .i64 0, .int .i64 0, .string ⟨#[]⟩, .string ⟨#[]⟩, .slice none 0 0] 28)).alloc (.cells #[.int .i64 x.op, .int .i64 x.v.kind, .int .i64 x.v.n, .string x.v.s, .string x.s, .slice Al x.l.length cl] 28)) (.cells #[.int .i64 13, .int .i64 0, .int .i64 0, .string ⟨#[]⟩, .string ⟨#[]⟩, .slice (some ⟨w.heap.size + 1 + 1, 0, none⟩) 1 1] 28))
  have hsw : ((w.alloc (.cells #[.int .i64 x.op, .int .i64 x.v.kind, .int .i64 x.v.n, .string x.v.s, .string x.s, .slice Al x.l.length cl] 28)).alloc (.cells #[.int .i64 0, .int .i64 0, .int .i64 0, .string ⟨#[]⟩, .string ⟨#[]⟩, .slice none 0 0] 28)).heap.size = w.heap.size + 1 + 1 := by rw [World.size_alloc, World.size_alloc]
  rw [hsw] at hrow0
  have hsz : w.heap.size + 4 ≤ ((((w.alloc (.cells #[.int .i64 x.op, .int .i64 x.v.kind, .int .i64 x.v.n, .string x.v.s, .string x.s, .slice Al x.l.length cl] 28)).alloc (.cells #[.int .i64 0, .int .i64 0, .int .i64 0, .string ⟨#[]⟩, .string ⟨#[]⟩, .slice none 0 0] 28)).alloc (.cells #[.int .i64 x.op, .int .i64 x.v.kind, .int .i64 x.v.n, .string x.v.s, .string x.s, .slice Al x.l.length cl] 28)).alloc (.cells #[.int .i64 13, .int .i64 0, .int .i64 0, .string ⟨#[]⟩, .string ⟨#[]⟩, .slice (some ⟨w.heap.size + 1 + 1, 0, none⟩) 1 1] 28)).heap.size := by rw [World.size_alloc, World.size_alloc, World.size_alloc, World.size_alloc]; omega
  generalize hw1 : ((((w.alloc (.cells #[.int .i64 x.op, .int .i64 x.v.kind, .int .i64 x.v.n, .string x.v.s, .string x.s, .slice Al x.l.length cl] 28)).alloc (.cells #[.int .i64 0, .int .i64 0, .int .i64 0, .string ⟨#[]⟩, .string ⟨#[]⟩, .slice none 0 0] 28)).alloc (.cells #[.int .i64 x.op, .int .i64 x.v.kind, .int .i64 x.v.n, .string x.v.s, .string x.s, .slice Al x.l.length cl] 28)).alloc (.cells #[.int .i64 13, .int .i64 0, .int .i64 0, .string ⟨#[]⟩, .string ⟨#[]⟩, .slice (some ⟨w.heap.size + 1 + 1, 0, none⟩) 1 1] 28)) = w1 at *
  clear hw1 hsw
  obtain ⟨cs, hcs⟩ : ∃ cs : List Value, [.int .i64 x.op, .int .i64 x.v.kind, .int .i64 x.v.n, .string x.v.s, .string x.s, .slice Al x.l.length cl] = cs := ⟨_, rfl⟩
  have hcl : cs.length = 6 := by rw [← hcs]; rfl
  have hrow1 : w1.ownsRow (w.heap.size + 1 + 1) 28 6 (.slice (some ⟨w.heap.size + 1 + 1, 0, none⟩) 1 1) (1 + ([] : List Int).length) (rowC cs []) := by
    unfold rowC; rw [List.flatMap_nil, List.append_nil, ← hcs]; exact hrow0
  have HXC : Hid (RExN (m + 1) (DX q0 w) w x cs) := by show _; rw [← hcs]; exact HX6.out
  clear hrow0 hcs HX6
  have h1 := IsPs.now h hbw
  have hl1 := Sl.below hl RTok.kept (hbw.mono (Nat.le_of_lt hglt)) (Nat.le_refl _)
  have hnd := need_any g A c L i kLeft w1 (isB_lt hq) (Lt g) hl1 hL.len h1 hq
  unfold kLeft at hnd
  have HND := Lib.hid hnd
  clear hnd h1 hl1
  go_wp2_with fail
  refine HND.out.mono ?_
  rintro e w2 ⟨rfl, h2, hg2⟩
  have hg02 := lexGrownT (grown_of_below hbw (some g)) hg2
  have hZ2 := hZ.grown hg2 (fun e => by injection e with e; omega)
  have hK2 := hK.grown hg2 (fun e => by injection e with e; omega)
  have hrow2 := hrow1.kept hg2 (.inr (fun e => by injection e with e; have : w.heap.size + 1 + 1 = g := e; omega))
  have hsz2 := Nat.le_trans hsz hg2.size
  clear hZ hK hrow1 hsz hg2 HND hbw
  go_wp2_with fail
  go_loopg [] f (fun gg wr => ∃ (f' i' : Nat) (ns : List Int) (sv : Value), f' ≤ gg ∧ ns.length + f' ≤ f ∧ Hid (pSetB L f' i' (x :: ns.map num) = some R) ∧ i' < L.length ∧ (∀ n ∈ ns, 0 ≤ n ∧ n ≤ 4) ∧ IsPs wr g A c L i' ∧
    Blk wr (w.heap.size + 1) 28 #[.int .i64 0, .int .i64 0, .int .i64 0, .string ⟨#[]⟩, .string ⟨#[]⟩, .slice none 0 0] ∧ Blk wr (w.heap.size + 1 + 1 + 1) 28 #[.int .i64 13, .int .i64 0, .int .i64 0, .string ⟨#[]⟩, .string ⟨#[]⟩, sv] ∧
    wr.ownsRow (w.heap.size + 1 + 1) 28 6 sv (1 + ns.length) (rowC cs ns) ∧ (∀ q, sv.ownBlock = some q → q ≠ w.heap.size + 1 + 1 + 1) ∧ w.grownBy wr (some g) ∧ w.heap.size + 4 ≤ wr.heap.size)
  case atStart => exact ⟨f, i + 1, [], _, Nat.le_refl _, by simp, HR.out, hL.next hq, by simp, h2, hZ2, hK2, hrow2, fun q e => by injection e with e; have e : w.heap.size + 1 + 1 = q := e; omega, hg02, hsz2⟩
  case round =>
    obtain ⟨f', i', ns, sv, hfg, hnf, HRR, hi', hns, hr', hZr, hKr, hrow, hnt, hgr, hszr⟩ := hrel
    clear h2 hZ2 hK2 hrow2 hg02 hsz2
    obtain ⟨f'', y, i'', rfl, hcon, hcase⟩ := pSet_step HRR.out
    obtain ⟨t, ht, hy, hi2⟩ := conB_some hcon
    subst hy hi2
    have htn := hL.num t (List.mem_of_getElem? ht)
    have hlr := Sl.below hl RTok.kept (below_of_grown hgr (Nat.le_of_lt hglt) (fun q e => by injection e with e; omega)) (Nat.le_refl _)
    have hc3 := constant_any g A c L i' _ wr hi' hL.len g (by omega) hlr hr' hcon
    have HCC := Lib.hid hc3
    have HCS := Lib.hid hcase
    have HTT := Lib.hid ht
    clear hc3 hcase ht hcon HRR hlr
    have hnb : ∀ q, sv.ownBlock = some q → w.heap.size + 1 + 1 ≤ q := fun q e => (hrow.lt q e).1
    go_wp2_with fail
    refine HCC.out.mono ?_
    rintro e w3 ⟨⟨n, hxe, rfl, h3, _⟩, hg3⟩
    have hn : n = t.n := by unfold num at hxe; injection hxe with _ h _ _; injection h with _ h _; exact h.symm
    have hn0 : 0 ≤ n ∧ n ≤ 4 := by rw [hn]; exact htn
    have HN := Lib.hid hn
    clear hxe hn
    have hZ3 := hZr.grown hg3 (fun e => by injection e with e; omega)
    have hK3 := hKr.grown hg3 (fun e => by injection e with e; omega)
    have hrow3 := hrow.kept hg3 (by
      cases e : sv.ownBlock with
      | none => exact .inl rfl
      | some q => exact .inr (fun e2 => by injection e2 with e2; have := hnb q e; omega))
    have hgr3 := lexGrownT hgr hg3
    have hsz3 := Nat.le_trans hszr hg3.size
    clear hZr hKr hrow hgr hszr hg3 HCC
    have hb4 := bone w3 (.cells #[.int .i64 1, .int .i64 2, .int .i64 n, .string ⟨#[]⟩, .string ⟨#[]⟩, .slice none 0 0] 28)
    have hT4 := Blk.new w3 28 #[.int .i64 1, .int .i64 2, .int .i64 n, .string ⟨#[]⟩, .string ⟨#[]⟩, .slice none 0 0]
    have hZ4 := hZ3.now hb4
    have hK4 := hK3.now hb4
    have hrow4 := own_now hrow3 hb4
    have h4 := IsPs.now h3 hb4
    have hgr4 := lexGrownT hgr3 (grown_of_below hb4 (some g))
    have hsz4 := Nat.le_trans hsz3 hb4.size
    have hnk : ∀ q, sv.ownBlock = some q → q < w3.heap.size := fun q e => (hrow3.lt q e).2
    unfold numXs
    go_upto_region 4 with fail
    generalize hw4 : w3.alloc (.cells #[.int .i64 1, .int .i64 2, .int .i64 n, .string ⟨#[]⟩, .string ⟨#[]⟩, .slice none 0 0] 28) = w4 at *
    have htlt := hT4.lt
    have ht6 : w.heap.size + 4 ≤ w3.heap.size := hsz3
    generalize hkt : w3.heap.size = kt at *
    clear hw4 hkt hZ3 hK3 hrow3 h3 hgr3 hsz3 hb4
    obtain ⟨k0, k1, k2, k3, k4, k5⟩ := hK4.c6
    obtain ⟨t0, t1, t2, t3, t4, t5⟩ := hT4.c6
    obtain ⟨As, cs', rfl⟩ : ∃ As cs', sv = .slice As (1 + ns.length) cs' := by
      rcases hrow4.2 with ⟨e, e0⟩ | ⟨g, c, cur, e, _⟩
      · exact absurd e0 (by omega)
      · exact ⟨_, _, e⟩
    go_wp2_with (at_builtin; refine wpList_push appEx' rfl (.tmp 25) (.tmp 27) rfl w4 [.int .i64 1, .int .i64 2, .int .i64 n, .string ⟨#[]⟩, .string ⟨#[]⟩, .slice none 0 0] rfl (by simp [Value.oneCell']) _ (1 + ns.length) (rowC cs ns) rfl hrow4 rfl (by omega) (by omega) ?_; intro v' w' hown' hgw hat; generalize hW : @wpList = WL)
    subst hW
    obtain ⟨g', cap', rfl, hgf, hg'l⟩ := World.ownsRow.form hown' (by omega)
    have hK5 := hK4.grown hgw (fun e => hnt _ e.symm rfl)
    have hZ5 := hZ4.grown hgw (fun e => by have := hnb _ e.symm; omega)
    have h5 : IsPs w' g A c L (i' + 1) := Blk.grown h4 hgw (fun e => by have := hnb _ e.symm; omega)
    have hgr5 : w.grownBy w' (some g) := grownVia hgr4 hgw (fun q e => by have := hnb q e; omega)
    have hnk' : g' ≠ w.heap.size + 1 + 1 + 1 := by
      rcases hat with h | h
      · exact fun e => hnt g' (show _ = some g' from h.symm) e
      · injection h with h; have h : g' = w4.heap.size + 1 := h; intro e; omega
    have hgw5 := hgw.size
    have f5 := hK5.frozen 5
    obtain ⟨m0, m1, m2, m3, m4, m5⟩ := hK5.c6
    have hK6 : Blk (w'.setCell ⟨w.heap.size + 1 + 1 + 1, 5, none⟩ (.slice (some ⟨g', 0, none⟩) (1 + ns.length + 1) cap')) (w.heap.size + 1 + 1 + 1) 28 #[.int .i64 13, .int .i64 0, .int .i64 0, .string ⟨#[]⟩, .string ⟨#[]⟩, (.slice (some ⟨g', 0, none⟩) (1 + ns.length + 1) cap')] := hK5.set_ 5 _
    have hZ6 := hZ5.far (p := ⟨w.heap.size + 1 + 1 + 1, 5, none⟩) (show w.heap.size + 1 ≠ w.heap.size + 1 + 1 + 1 by omega) (.slice (some ⟨g', 0, none⟩) (1 + ns.length + 1) cap')
    have h6 : IsPs (w'.setCell ⟨w.heap.size + 1 + 1 + 1, 5, none⟩ (.slice (some ⟨g', 0, none⟩) (1 + ns.length + 1) cap')) g A c L (i' + 1) := Blk.far h5 (p := ⟨w.heap.size + 1 + 1 + 1, 5, none⟩) (show g ≠ w.heap.size + 1 + 1 + 1 by omega) (.slice (some ⟨g', 0, none⟩) (1 + ns.length + 1) cap')
    have hgr6 := grownF hgr5 (show w.heap.size ≤ w.heap.size + 1 + 1 + 1 by omega) 5 (.slice (some ⟨g', 0, none⟩) (1 + ns.length + 1) cap')
    have hrow6 := ownsRow_setCell_other (a := ⟨w.heap.size + 1 + 1 + 1, 5, none⟩) hown' (fun e => by injection e with e; exact hnk' e) (.slice (some ⟨g', 0, none⟩) (1 + ns.length + 1) cap')
    have hsz6 : w.heap.size + 4 ≤ (w'.setCell ⟨w.heap.size + 1 + 1 + 1, 5, none⟩ (.slice (some ⟨g', 0, none⟩) (1 + ns.length + 1) cap')).heap.size := by rw [World.size_setCell]; exact Nat.le_trans hsz4 hgw5
    have hrc : rowC cs (ns ++ [n]) = rowC cs ns ++ [.int .i64 1, .int .i64 2, .int .i64 n, .string ⟨#[]⟩, .string ⟨#[]⟩, .slice none 0 0] := rowC_snoc cs ns n
    rw [← hrc] at hrow6
    clear hrc k0 k1 k2 k3 k4 k5 t0 t1 t2 t3 t4 t5 hT4 hK4 hZ4 h4 hgr4 hsz4 hgw hK5 hZ5 h5 hgr5 hown' hat
    go_upto_region 8 with fail
    generalize hw6 : w'.setCell ⟨w.heap.size + 1 + 1 + 1, 5, none⟩ (.slice (some ⟨g', 0, none⟩) (1 + ns.length + 1) cap') = w6 at *
    clear hw6 m0 m1 m2 m3 m4 m5 f5
    have hl6 := Sl.below hl RTok.kept (below_of_grown hgr6 (Nat.le_of_lt hglt) (fun q e => by injection e with e; omega)) (Nat.le_refl _)
    have hi1 : i' + 1 < L.length := by
      rcases HCS.out with ⟨h, _⟩ | ⟨_, h, _⟩
      · exact isB_lt h
      · exact isB_lt h
    have htk := take_any g A c L (i' + 1) kComma w6 hi1 (Lt g) hl6 hL.len h6
    unfold kComma at htk
    obtain ⟨q, hq'⟩ : ∃ q, isB L (i' + 1) ⟨#[44]⟩ = q := ⟨_, rfl⟩
    rw [hq'] at htk
    have HTK := Lib.hid htk
    have HQ := Lib.hid hq'
    clear htk hq' h6 hl6
    go_wp2_with fail
    refine HTK.out.mono ?_
    rintro e w7 ⟨rfl, h7, hg7⟩
    have hK7 := hK6.grown hg7 (fun e => by injection e with e; omega)
    have hZ7 := hZ6.grown hg7 (fun e => by injection e with e; omega)
    have hrow7 := hrow6.kept hg7 (.inr (fun e => by injection e with e; have : g' = g := e; omega))
    have hgr7 := lexGrownT hgr6 hg7
    have hsz7 := Nat.le_trans hsz6 hg7.size
    clear hK6 hZ6 hrow6 hgr6 hsz6 hg7 HTK
    have hns' : ∀ z ∈ ns ++ [n], 0 ≤ z ∧ z ≤ 4 := fun z hz => by
      rcases List.mem_append.1 hz with h | h
      · exact hns z h
      · rw [List.mem_singleton.1 h]; exact hn0
    have hmap : x :: (ns ++ [n]).map num = (x :: ns.map num) ++ [num t.n] := by rw [List.map_append, HN.out]; rfl
    have HMAP := Lib.hid hmap
    have hlen : (ns ++ [n]).length = ns.length + 1 := by simp
    cases q
    · have hR2 : isB L (i' + 1) kRight = true ∧ R = ((x :: ns.map num) ++ [num t.n], i' + 1 + 1) := by
        rcases HCS.out with ⟨h, _⟩ | ⟨_, h1, h2⟩
        · rw [show kComma = (⟨#[44]⟩ : ByteArray) from rfl, HQ.out] at h; cases h
        · exact ⟨h1, h2⟩
      obtain ⟨hRt, hRe⟩ := hR2
      have hl7 := Sl.below hl RTok.kept (below_of_grown hgr7 (Nat.le_of_lt hglt) (fun q e => by injection e with e; omega)) (Nat.le_refl _)
      have hnd := need_any g A c L (i' + 1) kRight w7 hi1 (Lt g) hl7 hL.len h7 hRt
      unfold kRight at hnd
      have HND := Lib.hid hnd
      have HRE := Lib.hid hRe
      have HRT := Lib.hid (hL.next hRt)
      clear hnd h7 hl7 hRt hRe hmap HCS
      go_wp2_with fail
      refine HND.out.mono ?_
      rintro e w8 ⟨rfl, h8, hg8⟩
      have hK8 := hK7.grown hg8 (fun e => by injection e with e; omega)
      have hZ8 := hZ7.grown hg8 (fun e => by injection e with e; omega)
      have hrow8 := hrow7.kept hg8 (.inr (fun e => by injection e with e; have : g' = g := e; omega))
      have hgr8 := lexGrownT hgr7 hg8
      clear hK7 hZ7 hrow7 hgr7 hg8 HND
      obtain ⟨k0, k1, k2, k3, k4, k5⟩ := hK8.c6
      obtain ⟨z0, z1, z2, z3, z4, z5⟩ := hZ8.c6
      have f0 := hZ8.frozen 0
      have f1 := hZ8.frozen 1
      have f2 := hZ8.frozen 2
      have f3 := hZ8.frozen 3
      have f4 := hZ8.frozen 4
      have f5 := hZ8.frozen 5
      go_wp2_with fail
      obtain ⟨s0, s1, s2, s3, s4, s5⟩ := (hZ8.set6' (.int .i64 13) (.int .i64 0) (.int .i64 0) (.string ⟨#[]⟩) (.string ⟨#[]⟩) (.slice (some ⟨g', 0, none⟩) (1 + ns.length + 1) cap')).c6
      refine bodyPost_ret (v := .agg #[.int .i64 13, .int .i64 0, .int .i64 0, .string ⟨#[]⟩, .string ⟨#[]⟩, (.slice (some ⟨g', 0, none⟩) (1 + ns.length + 1) cap')]) (by simp [results, Tryz.results124, go_sem, s0, s1, s2, s3, s4, s5]) rfl ?_
      have hgr9 := grown6' hgr8 (show w.heap.size ≤ w.heap.size + 1 by omega) (.int .i64 13) (.int .i64 0) (.int .i64 0) (.string ⟨#[]⟩) (.string ⟨#[]⟩) (.slice (some ⟨g', 0, none⟩) (1 + ns.length + 1) cap')
      have h9 := Blk.far6 h8 (show g ≠ w.heap.size + 1 by omega) (.int .i64 13) (.int .i64 0) (.int .i64 0) (.string ⟨#[]⟩) (.string ⟨#[]⟩) (.slice (some ⟨g', 0, none⟩) (1 + ns.length + 1) cap')
      have hno : (Value.slice (some ⟨g', 0, none⟩) (1 + ns.length + 1) cap').ownBlock ≠ some (w.heap.size + 1) := fun e => by injection e with e; have : g' = w.heap.size + 1 := e; omega
      have hrow9 := ownsRow_setCell_other (a := ⟨w.heap.size + 1, 5, none⟩) (ownsRow_setCell_other (a := ⟨w.heap.size + 1, 4, none⟩) (ownsRow_setCell_other (a := ⟨w.heap.size + 1, 3, none⟩) (ownsRow_setCell_other (a := ⟨w.heap.size + 1, 2, none⟩) (ownsRow_setCell_other (a := ⟨w.heap.size + 1, 1, none⟩) (ownsRow_setCell_other (a := ⟨w.heap.size + 1, 0, none⟩) (hrow8) hno (.int .i64 13)) hno (.int .i64 0)) hno (.int .i64 0)) hno (.string ⟨#[]⟩)) hno (.string ⟨#[]⟩)) hno (.slice (some ⟨g', 0, none⟩) (1 + ns.length + 1) cap')
      refine ⟨m + 1, _, rfl, ?_, by rw [HRE.out]; exact h9, by rw [HRE.out]; exact HRT.out, hgr9⟩
      rw [HRE.out]
      refine isEx_node 13 ?_ (by omega)
      show SlE (m + 1) _ _ _ ((x :: ns.map num) ++ [num t.n])
      rw [← HMAP.out]
      refine rowC_sl (by rw [hlen, ← Nat.add_assoc]; exact hrow9) hcl (RExN.grownX HXC.out hgq hgr9) hns' (fun q e => ?_)
      have hlt := (hrow9.lt q e).2
      have e : g' = q := by injection e
      exact ⟨by omega, hlt⟩
    · have hrec : pSetB L f'' (i' + 1 + 1) ((x :: ns.map num) ++ [num t.n]) = some R := by
        rcases HCS.out with ⟨_, h⟩ | ⟨h, _⟩
        · exact h
        · rw [show kComma = (⟨#[44]⟩ : ByteArray) from rfl, HQ.out] at h; cases h
      rw [← hmap] at hrec
      have HREC := Lib.hid hrec
      have hi2 : i' + 1 + 1 < L.length := hL.next HQ.out
      clear hrec hmap HCS
      go_wp2_with fail
      go_roundg f''
      case rel =>
        refine ⟨f'', i' + 1 + 1, ns ++ [n], _, Nat.le_refl _, by omega, HREC.out, hi2, hns', h7, hZ7, hK7, ?_, fun q e => by injection e with e; have e : g' = q := e; omega, hgr7, hsz7⟩
        rw [show 1 + (ns ++ [n]).length = 1 + ns.length + 1 by omega]
        exact hrow7
      case measure => omega
end Go.Proofs.YtijmnenojbfdnaaGreatDoor

namespace Go.Proofs.YtijmnenojbfdnaaGreatDoor
open Go.RowKit
def ExprC (L : List Tok) (f : Nat) : Prop := ∀ (g : Nat) (A : Option Addr) (c i least : Nat) (R : Ex × Nat) (q : Nat) (w : World), g ≤ q → q < w.heap.size → SlTk (Lt g) w (.slice A L.length c) L → IsPs w g A c L i → i < L.length → least ≤ 9 → exB L f i least = some R →
  Calls Tryz.prog 74 #[.pointer (some ⟨g, 0, none⟩), .int .i64 (least : Int)] w (RetX q g A c L R w)
def AtomC (L : List Tok) (f : Nat) : Prop := ∀ (g : Nat) (A : Option Addr) (c i : Nat) (R : Ex × Nat) (q : Nat) (w : World), g ≤ q → q < w.heap.size → SlTk (Lt g) w (.slice A L.length c) L → IsPs w g A c L i → i < L.length → atB L f i = some R →
  Calls Tryz.prog 122 #[.pointer (some ⟨g, 0, none⟩)] w (RetX q g A c L R w)
theorem isEx_num {D : Nat → Prop} {w : World} {n : Int} (hn : 0 ≤ n ∧ n ≤ 4) : IsEx 0 D w (.agg (numXs n)) (num n) :=
  ⟨.slice none 0 0, rfl, fit_small (z := 1) ⟨by decide, by decide⟩, ⟨fit_small (z := 2) ⟨by decide, by decide⟩, fit_small (z := n) ⟨hn.1, by omega⟩, Nat.zero_le _⟩, Nat.zero_le _, Sl.none_⟩
theorem isEx_var {D : Nat → Prop} {w : World} {s : ByteArray} (hs : s.size ≤ maxLen) : IsEx 0 D w (.agg #[.int .i64 2, .int .i64 0, .int .i64 0, .string ⟨#[]⟩, .string s, .slice none 0 0]) (.mk 2 ⟨0, 0, ⟨#[]⟩⟩ s []) :=
  ⟨.slice none 0 0, rfl, fit_small (z := 2) ⟨by decide, by decide⟩, ⟨fit_small (z := 0) ⟨by decide, by decide⟩, fit_small (z := 0) ⟨by decide, by decide⟩, Nat.zero_le _⟩, hs, Sl.none_⟩
theorem atB_step {L : List Tok} {f i : Nat} {R : Ex × Nat} (h : atB L f i = some R) : ∃ f' r, f = f' + 1 ∧ conB L i = some r ∧
    ((r = some R) ∨ (r = none ∧ ∃ t, L[i]? = some t ∧ ((t.kind = 1 ∧ keyB t.text = false ∧ R = (.mk 2 ⟨0, 0, ⟨#[]⟩⟩ t.text [], i + 1)) ∨
      (¬ (t.kind = 1 ∧ keyB t.text = false) ∧ isB L i kOpen = true ∧ ∃ x i', exB L f' (i + 1) 1 = some (x, i') ∧ isB L i' kShut = true ∧ R = (x, i' + 1))))) := by
  cases f with
  | zero => unfold atB at h; cases h
  | succ f =>
    unfold atB at h
    cases hc : conB L i with
    | none => rw [hc] at h; cases h
    | some r =>
      rw [hc] at h
      cases r with
      | some p => exact ⟨f, some p, rfl, rfl, .inl h⟩
      | none =>
        dsimp only at h
        cases ht : L[i]? with
        | none => rw [ht] at h; cases h
        | some t =>
          rw [ht] at h
          dsimp only at h
          refine ⟨f, none, rfl, rfl, .inr ⟨rfl, t, rfl, ?_⟩⟩
          by_cases hk : t.kind = 1 ∧ keyB t.text = false
          · rw [if_pos hk] at h
            injection h with h
            exact .inl ⟨hk.1, hk.2, h.symm⟩
          · rw [if_neg hk] at h
            by_cases ho : isB L i kOpen = true
            · rw [if_pos ho] at h
              cases hx : exB L f (i + 1) 1 with
              | none => rw [hx] at h; cases h
              | some p =>
                obtain ⟨x, i'⟩ := p
                rw [hx] at h
                dsimp only at h
                by_cases hs : isB L i' kShut = true
                · rw [if_pos hs] at h
                  injection h with h
                  exact .inr ⟨hk, ho, x, i', rfl, hs, h.symm⟩
                · rw [if_neg hs] at h; cases h
            · rw [if_neg ho] at h; cases h
theorem conB_next {L : List Tok} {i i' : Nat} {x : Ex} (h : conB L i = some (some (x, i'))) : i' = i + 1 := by
  obtain ⟨_, _, _, e⟩ := conB_some h
  exact e
theorem conB_kind {L : List Tok} {i i' : Nat} {x : Ex} {t : Tok} (h : conB L i = some (some (x, i'))) (ht : L[i]? = some t) : t.kind ≠ 5 := by
  intro e
  unfold conB at h
  rw [ht] at h
  dsimp only at h
  rw [if_neg (by rw [e]; decide), if_neg (by rw [e]; decide)] at h
  split at h
  · cases h
  · injection h with h; cases h
set_option maxHeartbeats 2000000 in
set_option maxRecDepth 100000 in
theorem atom_of (L : List Tok) (hL : TokOk L) (f : Nat) (hIH : ∀ f' < f, ExprC L f') : AtomC L f := by
  intro g A c i R q w hgq hqw hl h hi hr
  obtain ⟨f', r, rfl, hcon, hcase⟩ := atB_step hr
  have hex := hIH f' (by omega)
  have HEX := Lib.hid hex
  have HCS := Lib.hid hcase
  clear hIH hr hex hcase
  have hglt : g < w.heap.size := Blk.lt h
  have hLL := hL.len
  have hb1 := bone w (.cells #[.int .i64 0, .int .i64 0, .int .i64 0, .string ⟨#[]⟩, .string ⟨#[]⟩, .slice none 0 0] 28)
  have hR1 := Blk.new w 28 #[.int .i64 0, .int .i64 0, .int .i64 0, .string ⟨#[]⟩, .string ⟨#[]⟩, .slice none 0 0]
  go_enter Tryz.func122, Tryz.ntmps122
  go_upto_region 1 with fail
  generalize hw1 : w.alloc (.cells #[.int .i64 0, .int .i64 0, .int .i64 0, .string ⟨#[]⟩, .string ⟨#[]⟩, .slice none 0 0] 28) = w1 at *
  clear hw1
  have h1 := IsPs.now h hb1
  have hg1 := grown_of_below hb1 (some g)
  have hl1 := Sl.below hl RTok.kept (hb1.mono (Nat.le_of_lt hglt)) (Nat.le_refl _)
  have hc := constant_any g A c L i r w1 hi hL.len g (Nat.le_trans (Nat.le_of_lt hglt) hb1.size) hl1 h1 hcon
  have HC := Lib.hid hc
  have hcon0 := Lib.hid hcon
  clear hc hcon h1 hl1 hb1 h
  have hvis : ∀ (e : Ending) (w2 : World), RetCon g A c L i r w1 e w2 → ∃ xs fl, e = .returned (.tuple #[.agg xs, .bool fl]) := by
    rintro e w2 ⟨h, _⟩
    cases r with
    | none => exact ⟨_, _, h.1⟩
    | some p => obtain ⟨n, _, h, _⟩ := h; exact ⟨_, _, h⟩
  cases r with
  | some p =>
    have hRp : p = R := by
      rcases HCS.out with h | ⟨h, _⟩
      · injection h
      · cases h
    subst hRp
    obtain ⟨x, i'⟩ := p
    clear hvis HCS HEX
    go_wp2_with fail
    refine HC.out.mono ?_
    rintro e w2 ⟨⟨n, rfl, rfl, h2, t, ht, rfl⟩, hg2⟩
    have hn := hL.num t (List.mem_of_getElem? ht)
    have HN := Lib.hid hn
    have HI' := Lib.hid (show i' < L.length from Nat.lt_of_le_of_lt (Nat.le_of_eq (conB_next hcon0.out)) (hL.more i t ht (conB_kind hcon0.out ht)))
    have hR2 := hR1.grown hg2 (fun e => by injection e with e; omega)
    have hg02 := lexGrownT hg1 hg2
    clear hn HC hR1 hg2 hg1
    have hT3 := Blk.new w2 28 #[.int .i64 1, .int .i64 2, .int .i64 t.n, .string ⟨#[]⟩, .string ⟨#[]⟩, .slice none 0 0]
    have hb3 := bone w2 (.cells #[.int .i64 1, .int .i64 2, .int .i64 t.n, .string ⟨#[]⟩, .string ⟨#[]⟩, .slice none 0 0] 28)
    have hR3 := hR2.now hb3
    have h3 := IsPs.now h2 hb3
    have hg3 := lexGrownT hg02 (grown_of_below hb3 (some g))
    unfold numXs
    go_upto_region 2 with fail
    generalize hw3 : w2.alloc (.cells #[.int .i64 1, .int .i64 2, .int .i64 t.n, .string ⟨#[]⟩, .string ⟨#[]⟩, .slice none 0 0] 28) = w3 at *
    clear hw3 hR2 h2 hg02 hb3
    obtain ⟨c0, c1, c2⟩ := (show Blk w3 g 114 #[.slice A L.length c, .int .i64 (i' : Int), .bool false] from h3).c3
    obtain ⟨r0, r1, r2, r3, r4, r5⟩ := hR3.c6
    obtain ⟨t0, t1, t2, t3, t4, t5⟩ := hT3.c6
    have f0 := hR3.frozen 0
    have f1 := hR3.frozen 1
    have f2 := hR3.frozen 2
    have f3 := hR3.frozen 3
    have f4 := hR3.frozen 4
    have f5 := hR3.frozen 5
    go_wp2_with fail
    obtain ⟨s0, s1, s2, s3, s4, s5⟩ := (hR3.set6' (.int .i64 1) (.int .i64 2) (.int .i64 t.n) (.string ⟨#[]⟩) (.string ⟨#[]⟩) (.slice none 0 0)).c6
    refine bodyPost_ret (v := .agg (numXs t.n)) (by simp [results, Tryz.results122, go_sem, s0, s1, s2, s3, s4, s5, numXs]) rfl ?_
    exact ⟨0, _, rfl, isEx_num HN.out, Blk.far6 h3 (by omega) _ _ _ _ _ _, HI'.out, grown6' hg3 (Nat.le_refl _) _ _ _ _ _ _⟩
  | none =>
    have hcase := HCS.out.resolve_left (by intro h; cases h)
    obtain ⟨_, t', ht', hcs⟩ := hcase
    have HCT := Lib.hid hcs
    have HT' := Lib.hid ht'
    clear hvis HCS hcs ht'
    go_wp2_with fail
    refine HC.out.mono ?_
    rintro e w2 ⟨⟨rfl, h2⟩, hg2⟩
    have hR2 := hR1.grown hg2 (fun e => by injection e with e; omega)
    have hg02 := lexGrownT hg1 hg2
    have hsz2 := Nat.le_trans hR1.lt hg2.size
    clear HC hR1 hg2 hg1
    have hb3 := bone w2 (.cells #[.int .i64 0, .int .i64 0, .int .i64 0, .string ⟨#[]⟩, .string ⟨#[]⟩, .slice none 0 0] 28)
    have hR3 := hR2.now hb3
    have h3 := IsPs.now h2 hb3
    have hg3 := lexGrownT hg02 (grown_of_below hb3 (some g))
    have hsz3 := Nat.le_trans hsz2 hb3.size
    unfold zeroXs
    go_upto_region 2 with fail
    generalize hw3 : w2.alloc (.cells #[.int .i64 0, .int .i64 0, .int .i64 0, .string ⟨#[]⟩, .string ⟨#[]⟩, .slice none 0 0] 28) = w3 at *
    clear hw3 hR2 h2 hg02 hb3 hsz2
    obtain ⟨c0, c1, c2⟩ := (show Blk w3 g 114 #[.slice A L.length c, .int .i64 (i : Int), .bool false] from h3).c3
    go_upto_region 4 with fail
    have hl3 := Sl.below hl RTok.kept (below_of_grown hg3 (Nat.le_of_lt hglt) (fun q e => by injection e with e; omega)) (Nat.le_refl _)
    obtain ⟨b, o, t, rfl, hbg, hx, t0, t1, t2, t3, t4⟩ := SlTk.at_ hl3 hi
    have htt : t' = t := by have := HT'.out.symm.trans hx; injection this
    subst htt
    have i1 : (0 : Int) ≤ (i : Int) := by omega
    have i2 : (i : Int) < (L.length : Int) := by omega
    have hb0 := bone w3 (.cells #[.int .i64 0, .string ⟨#[]⟩, .int .i64 0, .int .i64 0, .int .i64 0] 117)
    obtain ⟨z0, z1, z2⟩ := (show Blk _ g 114 #[.slice (some ⟨b, o, none⟩) L.length c, .int .i64 (i : Int), .bool false] from IsPs.now h3 hb0).c3
    have hbl : b < w3.heap.size := World.block_lt_of_cell? _ _ t0
    have y0 := (hb0.cell (p := ⟨b, o + i * 5, none⟩) hbl).trans t0
    have y1 := (hb0.cell (p := ⟨b, o + i * 5 + 1, none⟩) hbl).trans t1
    have y2 := (hb0.cell (p := ⟨b, o + i * 5 + 2, none⟩) hbl).trans t2
    have y3 := (hb0.cell (p := ⟨b, o + i * 5 + 3, none⟩) hbl).trans t3
    have y4 := (hb0.cell (p := ⟨b, o + i * 5 + 4, none⟩) hbl).trans t4
    have hbt := (bone w3 (.cells #[.int .i64 t'.kind, .string t'.text, .int .i64 t'.n, .int .i64 1, .int .i64 t'.col] 117)).drew
    have hT4 := (Blk.new w3 117 #[.int .i64 t'.kind, .string t'.text, .int .i64 t'.n, .int .i64 1, .int .i64 t'.col]).drew
    have hR4 := hR3.now hbt
    have h4 := IsPs.now h3 hbt
    have hg4 := lexGrownT hg3 (grown_of_below hbt (some g))
    have hsz4 := Nat.le_trans hsz3 hbt.size
    have HX := Lib.hid hx
    clear hx HT'
    go_region
    generalize hw4 : (w3.alloc (.cells #[.int .i64 t'.kind, .string t'.text, .int .i64 t'.n, .int .i64 1, .int .i64 t'.col] 117)).drew = w4 at *
    have hT4lt := hT4.lt
    have hlt3 : g < w3.heap.size := by omega
    have hltR : w.heap.size < w3.heap.size := by omega
    generalize hkt : w3.heap.size = kt at *
    clear hw4 hkt hR3 h3 hg3 hl3 c0 c1 c2 z0 z1 z2 t0 t1 t2 t3 t4 y0 y1 y2 y3 y4 hb0 hbl hbt hsz3
    obtain ⟨t0, t1, t2, t3, t4⟩ := hT4.c5
    have hk5 : t'.kind = 1 → i + 1 < L.length := fun e => hL.more i t' HX.out (by rw [e]; decide)
    have htx := hL.text t' (List.mem_of_getElem? HX.out)
    have HTX := Lib.hid htx
    have HK5 := Lib.hid hk5
    clear hk5 htx
    by_cases hk1 : t'.kind = 1
    · have d1 : (t'.kind == 1) = true := by simpa using hk1
      have HK1 := Lib.hid hk1
      clear hk1
      have hky := key_any t'.text w4
      obtain ⟨qk, hqk⟩ : ∃ qk, keyB t'.text = qk := ⟨_, rfl⟩
      rw [hqk] at hky
      have HKY := Lib.hid hky
      have HQK := Lib.hid hqk
      clear hky hqk
      go_wp2_with fail
      refine HKY.out.mono ?_
      rintro e w5 ⟨rfl, rfl⟩
      clear HKY
      cases qk
      · have hRv : R = (.mk 2 ⟨0, 0, ⟨#[]⟩⟩ t'.text [], i + 1) := by
          rcases HCT.out with ⟨_, _, h⟩ | ⟨h, _⟩
          · exact h
          · exact absurd ⟨HK1.out, HQK.out⟩ h
        subst hRv
        obtain ⟨c0, c1, c2⟩ := (show Blk w4 g 114 #[.slice (some ⟨b, o, none⟩) L.length c, .int .i64 (i : Int), .bool false] from h4).c3
        have f1 := h4.frozen 1
        have e1 : ((i + 1 : Nat) : Int) = (i : Int) + 1 := by omega
        go_upto_region 7 with fail
        have h5 := h4.set_ 1 (.int .i64 ((i : Int) + 1))
        have hR5 := hR4.far (p := ⟨g, 1, none⟩) (show w.heap.size ≠ g by omega) (.int .i64 ((i : Int) + 1))
        have hT5 := hT4.far (p := ⟨g, 1, none⟩) (show kt ≠ g by omega) (.int .i64 ((i : Int) + 1))
        have hg5 := lexGrownT hg4 (lexGrownS w4 g 1 (.int .i64 ((i : Int) + 1)))
        generalize hw5 : w4.setCell ⟨g, 1, none⟩ (.int .i64 ((i : Int) + 1)) = w5 at *
        clear hw5 hR4 h4 hg4 hT4 t0 t1 t2 t3 t4 c0 c1 c2 f1 hT4lt hsz4
        obtain ⟨t0, t1, t2, t3, t4⟩ := hT5.c5
        obtain ⟨r0, r1, r2, r3, r4, r5⟩ := hR5.c6
        have f0 := hR5.frozen 0
        have f1 := hR5.frozen 1
        have f2 := hR5.frozen 2
        have f3 := hR5.frozen 3
        have f4 := hR5.frozen 4
        have f5 := hR5.frozen 5
        go_wp2_with fail
        obtain ⟨s0, s1, s2, s3, s4, s5⟩ := (hR5.set6' (.int .i64 2) (.int .i64 0) (.int .i64 0) (.string ⟨#[]⟩) (.string t'.text) (.slice none 0 0)).c6
        refine bodyPost_ret (v := .agg #[.int .i64 2, .int .i64 0, .int .i64 0, .string ⟨#[]⟩, .string t'.text, .slice none 0 0]) (by simp [results, Tryz.results122, go_sem, s0, s1, s2, s3, s4, s5]) rfl ?_
        refine ⟨0, _, rfl, isEx_var HTX.out, ?_, HK5.out HK1.out, grown6' hg5 (Nat.le_refl _) _ _ _ _ _ _⟩
        unfold IsPs
        rw [e1]
        exact Blk.far6 h5 (by omega) _ _ _ _ _ _
      · exfalso
        have ho : isB L i kOpen = true := by
          rcases HCT.out with ⟨_, h, _⟩ | ⟨_, h, _⟩
          · rw [HQK.out] at h; cases h
          · exact h
        have he : t'.text = kOpen := by
          unfold isB at ho
          rw [HX.out] at ho
          simp only [Bool.and_eq_true, decide_eq_true_eq] at ho
          exact ho.1
        have := HQK.out
        rw [he] at this
        exact absurd this (by rw [show keyB kOpen = false by kernel_rfl]; decide)
    · have d1 : (t'.kind == 1) = false := by simpa using hk1
      have hcs : isB L i kOpen = true ∧ ∃ x i', exB L f' (i + 1) 1 = some (x, i') ∧ isB L i' kShut = true ∧ R = (x, i' + 1) := by
        rcases HCT.out with ⟨h, _⟩ | ⟨_, h, h'⟩
        · exact absurd h hk1
        · exact ⟨h, h'⟩
      obtain ⟨ho, x, i', hex, hs, hRe⟩ := hcs
      subst hRe
      have HHS := Lib.hid hs
      have HHX := Lib.hid hex
      have hi1 := hL.next ho
      have hl4 := Sl.below hl RTok.kept (below_of_grown hg4 (Nat.le_of_lt hglt) (fun q e => by injection e with e; omega)) (Nat.le_refl _)
      have hnd := need_any g (some ⟨b, o, none⟩) c L i kOpen w4 hi (Lt g) hl4 hL.len h4 ho
      unfold kOpen at hnd
      have HND := Lib.hid hnd
      clear hk1 HCT ho hs hex hnd hl4
      go_wp2_with fail
      refine HND.out.mono ?_
      rintro e w5 ⟨rfl, h5, hg45⟩
      have hR5 := hR4.grown hg45 (fun e => by injection e with e; omega)
      have hg5 := lexGrownT hg4 hg45
      have hsz5 := Nat.le_trans hsz4 hg45.size
      clear hR4 h4 hg4 hT4 t0 t1 t2 t3 t4 hg45 HND hsz4
      obtain ⟨c0, c1, c2⟩ := (show Blk w5 g 114 #[.slice (some ⟨b, o, none⟩) L.length c, .int .i64 (((i + 1 : Nat)) : Int), .bool false] from h5).c3
      have hl5 := Sl.below hl RTok.kept (below_of_grown hg5 (Nat.le_of_lt hglt) (fun q e => by injection e with e; omega)) (Nat.le_refl _)
      have hcx := HEX.out g (some ⟨b, o, none⟩) c (i + 1) 1 (x, i') w.heap.size w5 (by omega) hsz5 hl5 h5 hi1 (by omega) HHX.out
      have HCX := Lib.hid hcx
      clear hcx hl5 HHX
      go_wp2_with fail
      refine HCX.out.mono ?_
      rintro e w6 ⟨m, xv, rfl, hx6, h6, hi6, hg56⟩
      have hR6 := hR5.grown hg56 (fun e => by injection e with e; omega)
      have hg6 := lexGrownT hg5 hg56
      have hsz6 := Nat.le_trans hsz5 hg56.size
      clear hR5 h5 hg5 hg56 HCX c0 c1 c2 hsz5
      obtain ⟨lv, rfl, _, Ax, cx, rfl⟩ := hx6.cells
      dsimp only at h6 hi6 hx6
      have hT7 := Blk.new w6 28 #[.int .i64 x.op, .int .i64 x.v.kind, .int .i64 x.v.n, .string x.v.s, .string x.s, .slice Ax x.l.length cx]
      have hb7 := bone w6 (.cells #[.int .i64 x.op, .int .i64 x.v.kind, .int .i64 x.v.n, .string x.v.s, .string x.s, .slice Ax x.l.length cx] 28)
      have hR7 := hR6.now hb7
      have h7 := IsPs.now h6 hb7
      have hx7 := hx6.grownX (show g ≤ w.heap.size by omega) (grown_of_below hb7 (some g))
      have hg7 := lexGrownT hg6 (grown_of_below hb7 (some g))
      have hsz7 := Nat.le_trans hsz6 hb7.size
      go_upto_region 12 with fail
      generalize hw7 : w6.alloc (.cells #[.int .i64 x.op, .int .i64 x.v.kind, .int .i64 x.v.n, .string x.v.s, .string x.s, .slice Ax x.l.length cx] 28) = w7 at *
      have hT7lt := hT7.lt
      have hk6 : g < w6.heap.size := by omega
      have hk7 : w.heap.size < w6.heap.size := by omega
      generalize hkt6 : w6.heap.size = k6 at *
      clear hw7 hkt6 hR6 h6 hg6 hx6 hb7 hsz6
      have hl7 := Sl.below hl RTok.kept (below_of_grown hg7 (Nat.le_of_lt hglt) (fun q e => by injection e with e; omega)) (Nat.le_refl _)
      have hnd := need_any g (some ⟨b, o, none⟩) c L i' kShut w7 hi6 (Lt g) hl7 hL.len h7 HHS.out
      unfold kShut at hnd
      have HND := Lib.hid hnd
      clear hnd hl7
      go_wp2_with fail
      refine HND.out.mono ?_
      rintro e w8 ⟨rfl, h8, hg78⟩
      have hR8 := hR7.grown hg78 (fun e => by injection e with e; omega)
      have hT8 := hT7.grown hg78 (fun e => by injection e with e; omega)
      have hx8 := hx7.grownX (show g ≤ w.heap.size by omega) hg78
      have hg8 := lexGrownT hg7 hg78
      clear hR7 h7 hg7 hT7 hg78 HND hx7
      obtain ⟨t0, t1, t2, t3, t4, t5⟩ := hT8.c6
      obtain ⟨r0, r1, r2, r3, r4, r5⟩ := hR8.c6
      have f0 := hR8.frozen 0
      have f1 := hR8.frozen 1
      have f2 := hR8.frozen 2
      have f3 := hR8.frozen 3
      have f4 := hR8.frozen 4
      have f5 := hR8.frozen 5
      go_wp2_with fail
      obtain ⟨s0, s1, s2, s3, s4, s5⟩ := (hR8.set6' (.int .i64 x.op) (.int .i64 x.v.kind) (.int .i64 x.v.n) (.string x.v.s) (.string x.s) (.slice Ax x.l.length cx)).c6
      refine bodyPost_ret (v := .agg #[.int .i64 x.op, .int .i64 x.v.kind, .int .i64 x.v.n, .string x.v.s, .string x.s, .slice Ax x.l.length cx]) (by simp [results, Tryz.results122, go_sem, s0, s1, s2, s3, s4, s5]) rfl ?_
      exact ⟨m, _, rfl, (hx8.far6X (Nat.le_refl _) (.int .i64 x.op) (.int .i64 x.v.kind) (.int .i64 x.v.n) (.string x.v.s) (.string x.s) (.slice Ax x.l.length cx)).lowX (Nat.le_of_lt hqw), Blk.far6 h8 (by omega) (.int .i64 x.op) (.int .i64 x.v.kind) (.int .i64 x.v.n) (.string x.v.s) (.string x.s) (.slice Ax x.l.length cx), hL.next HHS.out, grown6' hg8 (Nat.le_refl _) (.int .i64 x.op) (.int .i64 x.v.kind) (.int .i64 x.v.n) (.string x.v.s) (.string x.s) (.slice Ax x.l.length cx)⟩
end Go.Proofs.YtijmnenojbfdnaaGreatDoor

namespace Go.Proofs.YtijmnenojbfdnaaGreatDoor
open Go.RowKit
def stopB (L : List Tok) (i least top : Nat) : Bool := decide (opB L i = 0 ∨ levB (opB L i) < least ∨ top < askB (opB L i))
def LoopOk (L : List Tok) (f i least : Nat) (x : Ex) (top : Nat) (R : Ex × Nat) : Prop := loopB L f i least x top = some R
theorem exB_step {L : List Tok} {f i least : Nat} {R : Ex × Nat} (h : exB L f i least = some R) : ∃ f', f = f' + 1 ∧ ¬ (least ≤ 1 ∧ isB L i kIf = true) ∧
    ((least ≤ 4 ∧ isB L i kNot = true ∧ ∃ y i', exB L f' (i + 1) 4 = some (y, i') ∧ LoopOk L f' i' least (nodeB 3 [y]) 4 R) ∨
     (¬ (least ≤ 4 ∧ isB L i kNot = true) ∧ ∃ x i', atB L f' i = some (x, i') ∧ LoopOk L f' i' least x 8 R)) := by
  cases f with
  | zero => unfold exB at h; cases h
  | succ f =>
    unfold exB at h
    by_cases h1 : least ≤ 1 ∧ isB L i kIf = true
    · rw [if_pos h1] at h; cases h
    · rw [if_neg h1] at h
      refine ⟨f, rfl, h1, ?_⟩
      by_cases h2 : least ≤ 4 ∧ isB L i kNot = true
      · rw [if_pos h2] at h
        cases hx : exB L f (i + 1) 4 with
        | none => rw [hx] at h; cases h
        | some p =>
          rw [hx] at h
          exact .inl ⟨h2.1, h2.2, p.1, p.2, rfl, h⟩
      · rw [if_neg h2] at h
        cases hx : atB L f i with
        | none => rw [hx] at h; cases h
        | some p =>
          rw [hx] at h
          exact .inr ⟨h2, p.1, p.2, rfl, h⟩
theorem loopB_step {L : List Tok} {f i least top : Nat} {x : Ex} {R : Ex × Nat} (h : LoopOk L f i least x top R) : ∃ f', f = f' + 1 ∧
    ((stopB L i least top = true ∧ R = (x, i)) ∨
     (stopB L i least top = false ∧ opB L i = 13 ∧ isB L (i + 1) kLeft = true ∧ ∃ l i', pSetB L f' (i + 1 + 1) [x] = some (l, i') ∧ LoopOk L f' i' least (nodeB 13 l) 5 R) ∨
     (stopB L i least top = false ∧ opB L i ≠ 13 ∧ ∃ y i', exB L f' (i + 1) (levB (opB L i) + 1) = some (y, i') ∧ LoopOk L f' i' least (nodeB (opB L i) [x, y]) (levB (opB L i)) R)) := by
  unfold LoopOk at h
  cases f with
  | zero => unfold loopB at h; cases h
  | succ f =>
    unfold loopB at h
    refine ⟨f, rfl, ?_⟩
    by_cases h1 : opB L i = 0 ∨ levB (opB L i) < least ∨ top < askB (opB L i)
    · rw [if_pos h1] at h
      injection h with h
      exact .inl ⟨decide_eq_true h1, h.symm⟩
    · rw [if_neg h1] at h
      have h1 := decide_eq_false h1
      by_cases h2 : opB L i = 13
      · rw [if_pos h2] at h
        by_cases h3 : isB L (i + 1) kLeft = true
        · rw [if_pos h3] at h
          cases hx : pSetB L f (i + 2) [x] with
          | none => rw [hx] at h; cases h
          | some p =>
            rw [hx] at h
            exact .inr (.inl ⟨h1, h2, h3, p.1, p.2, rfl, h⟩)
        · rw [if_neg h3] at h; cases h
      · rw [if_neg h2] at h
        cases hx : exB L f (i + 1) (levB (opB L i) + 1) with
        | none => rw [hx] at h; cases h
        | some p =>
          rw [hx] at h
          exact .inr (.inr ⟨h1, h2, p.1, p.2, rfl, h⟩)
theorem opB_lt (L : List Tok) (i : Nat) : opB L i ≤ 13 := by
  unfold opB
  by_cases h : isB L i kIn = true
  · rw [if_pos h]; omega
  · rw [if_neg h]
    cases hf : signL.findIdx? (isB L i) with
    | none => exact Nat.zero_le _
    | some k =>
      have hk := (List.findIdx?_eq_some_iff_getElem.1 hf).1
      have : signL.length = 8 := rfl
      show k + 4 ≤ 13
      omega
theorem levB_le (op : Nat) : levB op ≤ 8 := by unfold levB; (repeat' split) <;> omega
theorem opB_is {L : List Tok} {i : Nat} (h : opB L i ≠ 0) : ∃ s, isB L i s = true := by
  unfold opB at h
  by_cases h1 : isB L i kIn = true
  · exact ⟨_, h1⟩
  · rw [if_neg h1] at h
    cases hf : signL.findIdx? (isB L i) with
    | none => rw [hf] at h; exact absurd rfl h
    | some k =>
      obtain ⟨hk, hq, _⟩ := List.findIdx?_eq_some_iff_getElem.1 hf
      exact ⟨_, hq⟩
theorem isEx_cells {m : Nat} {D : Nat → Prop} {w : World} {x : Ex} {lv : Value} (h : IsEx m D w (.agg #[.int .i64 x.op, .int .i64 x.v.kind, .int .i64 x.v.n, .string x.v.s, .string x.s, lv]) x) : RExN (m + 1) D w x [.int .i64 x.op, .int .i64 x.v.kind, .int .i64 x.v.n, .string x.v.s, .string x.s, lv] := by
  obtain ⟨lv', e, h1, h2, h3, h4⟩ := h
  have e : lv = lv' := by injection e with e; injection e with e; injection e with _ e; injection e with _ e; injection e with _ e; injection e with _ e; injection e with _ e; injection e with e
  subst e
  exact ⟨lv, rfl, h1, h2, h3, h4⟩
theorem row1_ex {q m base t : Nat} {w : World} {x : Ex} {Ax : Option Addr} {cx : Nat} {v : Value} (h : w.ownsRow base t 6 v 1 [.int .i64 x.op, .int .i64 x.v.kind, .int .i64 x.v.n, .string x.v.s, .string x.s, .slice Ax x.l.length cx]) (hx : IsEx m (DX q w) w (.agg #[.int .i64 x.op, .int .i64 x.v.kind, .int .i64 x.v.n, .string x.v.s, .string x.s, .slice Ax x.l.length cx]) x) (hq : q < base) : SlE (m + 1) (DX q w) w v [x] := by
  refine Sl.of_own h rfl (fun k hk => ⟨Nat.lt_of_lt_of_le hq (h.lt k hk).1, (h.lt k hk).2⟩) fun i y hy => ?_
  match i, hy with
  | 0, hy =>
    have hy : x = y := by simpa using hy
    subst hy
    exact ⟨[.int .i64 x.op, .int .i64 x.v.kind, .int .i64 x.v.n, .string x.v.s, .string x.s, .slice Ax x.l.length cx], rfl, fun j u hu => by rw [Nat.zero_mul, Nat.zero_add]; exact hu, isEx_cells hx⟩
theorem row2_ex {q m m' base t : Nat} {w : World} {x y : Ex} {Ax Ay : Option Addr} {cx cy : Nat} {v : Value} (h : w.ownsRow base t 6 v 2 [.int .i64 x.op, .int .i64 x.v.kind, .int .i64 x.v.n, .string x.v.s, .string x.s, .slice Ax x.l.length cx, .int .i64 y.op, .int .i64 y.v.kind, .int .i64 y.v.n, .string y.v.s, .string y.s, .slice Ay y.l.length cy]) (hx : IsEx m (DX q w) w (.agg #[.int .i64 x.op, .int .i64 x.v.kind, .int .i64 x.v.n, .string x.v.s, .string x.s, .slice Ax x.l.length cx]) x) (hy : IsEx m' (DX q w) w (.agg #[.int .i64 y.op, .int .i64 y.v.kind, .int .i64 y.v.n, .string y.v.s, .string y.s, .slice Ay y.l.length cy]) y) (hq : q < base) : SlE (max m m' + 1) (DX q w) w v [x, y] := by
  refine Sl.of_own h rfl (fun k hk => ⟨Nat.lt_of_lt_of_le hq (h.lt k hk).1, (h.lt k hk).2⟩) fun i z hz => ?_
  match i, hz with
  | 0, hz =>
    have hz : x = z := by simpa using hz
    subst hz
    refine ⟨[.int .i64 x.op, .int .i64 x.v.kind, .int .i64 x.v.n, .string x.v.s, .string x.s, .slice Ax x.l.length cx], rfl, fun j u hu => ?_, RExN.up _ _ (by omega) _ _ _ _ (isEx_cells hx)⟩
    rw [Nat.zero_mul, Nat.zero_add]
    have hj : j < 6 := (List.getElem?_eq_some_iff.1 hu).1
    match j, hj, hu with
    | 0, _, hu | 1, _, hu | 2, _, hu | 3, _, hu | 4, _, hu | 5, _, hu => exact hu
  | 1, hz =>
    have hz : y = z := by simpa using hz
    subst hz
    refine ⟨[.int .i64 y.op, .int .i64 y.v.kind, .int .i64 y.v.n, .string y.v.s, .string y.s, .slice Ay y.l.length cy], rfl, fun j u hu => ?_, RExN.up _ _ (by omega) _ _ _ _ (isEx_cells hy)⟩
    have hj : j < 6 := (List.getElem?_eq_some_iff.1 hu).1
    match j, hj, hu with
    | 0, _, hu | 1, _, hu | 2, _, hu | 3, _, hu | 4, _, hu | 5, _, hu => exact hu
end Go.Proofs.YtijmnenojbfdnaaGreatDoor
