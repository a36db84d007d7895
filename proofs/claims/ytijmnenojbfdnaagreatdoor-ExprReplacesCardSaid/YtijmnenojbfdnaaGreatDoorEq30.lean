/- Texts of this seat, merged. -/
import Derived.Test.YtijmnenojbfdnaaGreatDoorEq01
import Derived.Test.YtijmnenojbfdnaaGreatDoorEq02
import Derived.Test.YtijmnenojbfdnaaGreatDoorEq03
import Derived.Test.YtijmnenojbfdnaaGreatDoorEq04
import Derived.Test.YtijmnenojbfdnaaGreatDoorEq05
import Derived.Test.YtijmnenojbfdnaaGreatDoorEq06
import Derived.Test.YtijmnenojbfdnaaGreatDoorEq07
import Derived.Test.YtijmnenojbfdnaaGreatDoorEq08
import Derived.Test.YtijmnenojbfdnaaGreatDoorEq09
import Derived.Test.YtijmnenojbfdnaaGreatDoorEq10
import Derived.Test.YtijmnenojbfdnaaGreatDoorEq11
import Derived.Test.YtijmnenojbfdnaaGreatDoorEq12
import Derived.Test.YtijmnenojbfdnaaGreatDoorEq13
import Derived.Test.YtijmnenojbfdnaaGreatDoorEq14
import Derived.Test.YtijmnenojbfdnaaGreatDoorEq15
import Derived.Test.YtijmnenojbfdnaaGreatDoorEq16
import Derived.Test.YtijmnenojbfdnaaGreatDoorEq17
import Derived.Test.YtijmnenojbfdnaaGreatDoorEq18
import Derived.Test.YtijmnenojbfdnaaGreatDoorEq19
import Derived.Test.YtijmnenojbfdnaaGreatDoorEq20
import Derived.Test.YtijmnenojbfdnaaGreatDoorEq21
import Derived.Test.YtijmnenojbfdnaaGreatDoorEq22
import Derived.Test.YtijmnenojbfdnaaGreatDoorEq23
import Derived.Test.YtijmnenojbfdnaaGreatDoorEq24
import Derived.Test.YtijmnenojbfdnaaGreatDoorEq25
import Derived.Test.YtijmnenojbfdnaaGreatDoorEq26
import Derived.Test.YtijmnenojbfdnaaGreatDoorEq27
import Derived.Test.YtijmnenojbfdnaaGreatDoorEq28
import Derived.Test.YtijmnenojbfdnaaGreatDoorEq29
set_option linter.unusedSimpArgs false
set_option linter.unusedVariables false
namespace Go.Proofs.YtijmnenojbfdnaaGreatDoor
open Go.RowKit
theorem gw_set (w : World) (g k : Nat) (u : Value) : w.grownBy (w.setCell ⟨g, k, none⟩ u) (some g) :=
  ⟨rfl, rfl, rfl, by rw [World.size_setCell]; exact Nat.le_refl _, fun i _ hne => Below.heap_setCell w ⟨g, k, none⟩ u i (fun e => hne (by rw [e]))⟩
theorem gw_trans {a b c : World} {row : Option Nat} (h : a.grownBy b row) (k : b.grownBy c row) : a.grownBy c row :=
  ⟨k.os.trans h.os, k.tape.trans h.tape, k.output.trans h.output, Nat.le_trans h.size k.size, fun i hi hne => (k.block i (Nat.lt_of_lt_of_le hi h.size) hne).trans (h.block i hi hne)⟩
theorem gw_below {a b c : World} {row : Option Nat} (h : a.grownBy b row) (k : Below b.heap.size b c) : a.grownBy c row := gw_trans h (grown_of_below k row)
theorem grown_drewN' {a b : World} {row : Option Nat} (h : a.grownBy b row) (n : Nat) : a.grownBy (b.drewN n) row := ⟨h.os, h.tape, h.output, h.size, h.block⟩
def RetQ (w : World) (e : Ending) (w' : World) : Prop := ∃ b, e = .returned (.bool b) ∧ Below w.heap.size w w'
def Bu (g : Nat) (w : World) (b : Nat) : Prop := b < w.heap.size ∧ b ≠ g
theorem bu_now {g : Nat} {w w' : World} (h : w.grownBy w' (some g)) : (∀ b, Bu g w b → Bu g w' b) ∧ Same (Bu g w) w w' :=
  ⟨fun _ hb => ⟨Nat.lt_of_lt_of_le hb.1 h.size, hb.2⟩, fun b hb => h.block b hb.1 (fun e => hb.2 (by cases e; rfl))⟩
def SzR (g : Nat) (w : World) (e : Ending) (w' : World) : Prop := ∃ b k, e = .returned (.bool b) ∧ Blk w' g 3 #[.int .i64 k] ∧ w.grownBy w' (some g) ∧ (b = true → 0 ≤ k ∧ k ≤ 500)
set_option maxHeartbeats 4000000 in
set_option maxRecDepth 100000 in
theorem few_any : ∀ (n : Nat) (x : Ex) (u : Value) (w : World) (g : Nat) (l d : Int), IsEx n (Bu g w) w u x → Blk w g 3 #[.int .i64 l] → 0 ≤ l → l ≤ 500 → 0 ≤ d → d ≤ 101 →
    Calls Tryz.prog 38 #[u, .pointer (some ⟨g, 0, none⟩), .int .i64 d] w (SzR g w) := by
  intro n
  induction n using Nat.strongRecOn with
  | _ n ih =>
    intro x u w g l d h hG ha1 ha2 hd1 hd2
    obtain ⟨lv, rfl, h1, h2, h3, h4⟩ := h
    obtain ⟨A, c, rfl, l1, l2, h4⟩ := SlE.open_ h4
    have hgl := hG.lt
    have hb := bone w (.cells #[.int .i64 x.op, .int .i64 x.v.kind, .int .i64 x.v.n, .string x.v.s, .string x.s, .slice A x.l.length c] 28)
    have hB := Blk.new w 28 #[.int .i64 x.op, .int .i64 x.v.kind, .int .i64 x.v.n, .string x.v.s, .string x.s, .slice A x.l.length c]
    have hgw := grown_of_below hb (some g)
    have hl1 := Sl.keep h4 (RExN.kept n) (bu_now hgw).1 (bu_now hgw).2
    have hG1 := hG.now hb
    clear h4
    generalize hw1 : w.alloc (.cells #[.int .i64 x.op, .int .i64 x.v.kind, .int .i64 x.v.n, .string x.v.s, .string x.s, .slice A x.l.length c] 28) = w1 at *
    obtain ⟨q0, q1, q2, q3, q4, q5⟩ := hB.c6
    have p0 := hG1.c1
    have p1 := hG1.frozen 0
    obtain ⟨_, _, hsv⟩ := h2
    unfold maxLen at h3 hsv
    have wp1 : IntKind.i64.wrap ((x.s.size : Int) / 100) = (x.s.size : Int) / 100 := IntWalk.i64_in _ (by omega)
    have wp2 : IntKind.i64.wrap (1 + (x.s.size : Int) / 100) = 1 + (x.s.size : Int) / 100 := IntWalk.i64_in _ (by omega)
    have wp3 : IntKind.i64.wrap ((x.v.s.size : Int) / 100) = (x.v.s.size : Int) / 100 := IntWalk.i64_in _ (by omega)
    have wp4 : IntKind.i64.wrap (1 + (x.s.size : Int) / 100 + (x.v.s.size : Int) / 100) = 1 + (x.s.size : Int) / 100 + (x.v.s.size : Int) / 100 := IntWalk.i64_in _ (by omega)
    have wp5 : IntKind.i64.wrap (l - (1 + (x.s.size : Int) / 100 + (x.v.s.size : Int) / 100)) = l - (1 + (x.s.size : Int) / 100 + (x.v.s.size : Int) / 100) := IntWalk.i64_in _ (by omega)
    have hle : l - (1 + (x.s.size : Int) / 100 + (x.v.s.size : Int) / 100) ≤ 500 := by omega
    have HW := Lib.hid (And.intro wp1 (And.intro wp2 (And.intro wp3 (And.intro wp4 wp5))))
    clear h3 hsv h1
    go_enter Tryz.func38, Tryz.ntmps38
    go_wp2_with fail
    go_still_tail 16, (by kernel_rfl)
    change wpList _ _ _ _ _ w1.drew
    go_upto_region 2 with fail
    clear wp1 wp2 wp3 wp4 wp5 p0 p1 q0 q1 q2 q3 q4 q5
    generalize hl' : l - (1 + (x.s.size : Int) / 100 + (x.v.s.size : Int) / 100) = l' at *
    have hgs := gw_trans hgw (gw_set w1 g 0 (.int .i64 l'))
    have hgs2 := gw_set w1 g 0 (.int .i64 l')
    have hG2 : Blk (w1.setCell ⟨g, 0, none⟩ (.int .i64 l')).drew g 3 #[.int .i64 l'] := (hG1.set_ 0 (.int .i64 l')).drew
    have hB2 : Blk (w1.setCell ⟨g, 0, none⟩ (.int .i64 l')).drew w.heap.size 28 _ := (hB.grown hgs2 (by intro e; injection e with e; omega)).drew
    have hgs3 := grown_drewN' hgs 1
    have hl2 : Sl 6 (RExN n) (Bu g (w1.setCell ⟨g, 0, none⟩ (.int .i64 l')).drew) (w1.setCell ⟨g, 0, none⟩ (.int .i64 l')).drew (.slice A x.l.length c) x.l := Sl.keep (Sl.keep hl1 (RExN.kept n) (bu_now hgs2).1 (bu_now hgs2).2) (RExN.kept n) (fun _ h => h) (fun _ _ => rfl)
    have hgw2 : w.grownBy (w1.setCell ⟨g, 0, none⟩ (.int .i64 l')).drew (some g) := grown_drewN' hgs 1
    clear hgs hgs2 hgs3 hB hG1 hl1 hgw hb hw1
    generalize (w1.setCell ⟨g, 0, none⟩ (.int .i64 l')).drew = w2 at *
    obtain ⟨q0, q1, q2, q3, q4, q5⟩ := hB2.c6
    have p0 := hG2.c1
    by_cases c1 : l' < 0
    · go_wp2_with fail
      go_ret
      exact ⟨false, l', rfl, hG2, hgw2, fun h => by cases h⟩
    by_cases c2 : d > 100
    · go_wp2_with fail
      go_ret
      exact ⟨false, l', rfl, hG2, hgw2, fun h => by cases h⟩
    go_wp2_with fail
    go_loopw [36] (fun i wr => ∃ (k : Nat) (z : Int), k ≤ x.l.length ∧ i = .int .i64 k ∧ 0 ≤ z ∧ z ≤ 500 ∧ Blk wr g 3 #[.int .i64 z] ∧ w.grownBy wr (some g) ∧ w2.grownBy wr (some g)) (fun i _ => x.l.length - (intOf i).toNat)
    case atStart => exact ⟨0, l', Nat.zero_le _, rfl, by omega, by omega, hG2, hgw2, World.grownBy.refl _ _⟩
    case round =>
      obtain ⟨k, z, hk, rfl, z1, z2, hGr, hgr, hgr2⟩ := hrel
      by_cases hlt : k < x.l.length
      · have hlr : SlE n (Bu g wr) wr (.slice A x.l.length c) x.l := Sl.keep hl2 (RExN.kept n) (bu_now hgr2).1 (bu_now hgr2).2
        obtain ⟨b, o, y, lv, n', hn, rfl, hD, hx, hex, hfv, hsl, e0, e1, e2, e3, e4, e5⟩ := hlr.at_ hlt
        have hsl := hsl
        obtain ⟨A2, c2', rfl, m1, m2, _⟩ := SlE.open_ hsl
        have hb3 := bone wr (.cells #[.int .i64 y.op, .int .i64 y.v.kind, .int .i64 y.v.n, .string y.v.s, .string y.s, .slice A2 y.l.length c2'] 28)
        have hg3 := grown_of_below hb3 (some g)
        have wd : IntKind.i64.wrap (d + 1) = d + 1 := IntWalk.i64_in _ (by omega)
        have hcall := Lib.hid (ih n' (by omega) y _ _ g z (d + 1) (hex.keepD (bu_now hg3).1 (bu_now hg3).2) (hGr.now hb3) z1 z2 (by omega) (by omega))
        clear hx hex hfv hsl hn hlr hD
        go_wp2_with fail
        refine hcall.out.mono ?_
        rintro e w4 ⟨ok, z', rfl, hG4, hg4, hz⟩
        have hgw4 : w.grownBy w4 (some g) := gw_trans (gw_below hgr hb3) hg4
        have hgw4' : w2.grownBy w4 (some g) := gw_trans (gw_below hgr2 hb3) hg4
        cases ok
        · go_wp2_with fail
          go_ret
          exact ⟨false, z', rfl, hG4, hgw4, fun h => by cases h⟩
        · have hz' := hz rfl
          clear hz
          go_wp2_with fail
          go_roundw
          case rel => exact ⟨k + 1, z', by omega, by go_num, hz'.1, hz'.2, hG4, hgw4, hgw4'⟩
          case measure => simp [intOf]; omega
      · go_wp2_with fail
        go_ret
        exact ⟨true, z, rfl, hGr, hgr, fun _ => ⟨z1, z2⟩⟩
def AsksXW (k : FuncId) (w : World) : Prop := ∀ (x : Var) (v : Value) (W : World), Below w.heap.size w W → IsVar (Lt W.heap.size) W v x → Calls Tryz.prog k #[v] W (RetQ W)
set_option maxHeartbeats 1000000 in
theorem indexXW (k : FuncId) (eg : ∀ args w, (callFunc k args).run Tryz.prog w = .ok (.enter k args) w) (tv : Value) (ts : List Var) (w : World) (ht : SlX (Lt w.heap.size) w tv ts) (hf : AsksXW k w) :
    Calls Tryz.prog 76 #[tv, .func (.func k) #[] #[]] w fun e w' => ∃ z : Int, e = .returned (.int .i64 z) ∧ Below w.heap.size w w' := by
  obtain ⟨A, c, rfl, h1, h2, ht⟩ := ht.open_
  have HF := Lib.hid hf
  clear hf
  go_enter Tryz.func76, Tryz.ntmps76
  go_wp2_with fail
  go_loopw [8] (fun i wr => ∃ j : Nat, j ≤ ts.length ∧ i = .int .i64 j ∧ Below w.heap.size w wr) (fun i _ => ts.length - (intOf i).toNat)
  case atStart => exact ⟨0, Nat.zero_le _, rfl, Below.refl _ _⟩
  case round =>
    obtain ⟨j, hj, rfl, hb⟩ := hrel
    by_cases hlt : j < ts.length
    · obtain ⟨b, o, x, iv, rfl, hD, hx, hvar, hiv, c0, c1, c2, c3, c4⟩ := (ht.now hb).at_ hlt
      have HC := Lib.hid (HF.out x _ wr hb hvar)
      go_wp2_with (go_at_fn k; refine HC.out.mono ?_; rintro e w' ⟨q, rfl, hb'⟩)
      · go_ret
        exact ⟨_, rfl, bthen hb hb'⟩
      · go_roundw
        case rel => exact ⟨j + 1, by omega, by go_num, bthen hb hb'⟩
        case measure => simp [intOf]; omega
    · go_wp2_with fail
      go_ret
      exact ⟨_, rfl, hb⟩
theorem containsXW (k : FuncId) (eg : ∀ args w, (callFunc k args).run Tryz.prog w = .ok (.enter k args) w) (tv : Value) (ts : List Var) (w : World) (ht : SlX (Lt w.heap.size) w tv ts) (hf : AsksXW k w) :
    Calls Tryz.prog 39 #[tv, .func (.func k) #[] #[]] w (RetQ w) := by
  have HC := Lib.hid (indexXW k eg tv ts w ht hf)
  clear hf ht
  go_enter Tryz.func39, Tryz.ntmps39
  go_wp2_with (go_at_call 76; refine HC.out.mono ?_; rintro e w' ⟨z, rfl, hb'⟩)
  go_ret
  exact ⟨_, rfl, hb'⟩
theorem small1_any (n : Nat) (x : Ex) (u : Value) (w : World) (g : Nat) (l : Int) (h : IsEx n (Bu g w) w u x) (hG : Blk w g 3 #[.int .i64 l]) (h0 : 0 ≤ l) (h1 : l ≤ 500) :
    Calls Tryz.prog 37 #[u, .pointer (some ⟨g, 0, none⟩)] w fun e w' => ∃ b k, e = .returned (.bool b) ∧ Blk w' g 3 #[.int .i64 k] ∧ w.grownBy w' (some g) ∧ (b = false → 0 ≤ k ∧ k ≤ 500) := by
  have hx := h
  obtain ⟨lv, rfl, h1', h2, h3, h4⟩ := h
  obtain ⟨A, c, rfl, l1, l2, h4⟩ := SlE.open_ h4
  have hgl := hG.lt
  have hb := bone w (.cells #[.int .i64 x.op, .int .i64 x.v.kind, .int .i64 x.v.n, .string x.v.s, .string x.s, .slice A x.l.length c] 28)
  have hB := Blk.new w 28 #[.int .i64 x.op, .int .i64 x.v.kind, .int .i64 x.v.n, .string x.v.s, .string x.s, .slice A x.l.length c]
  have hgw := grown_of_below hb (some g)
  have hx1 := hx.keepD (bu_now hgw).1 (bu_now hgw).2
  have HC := Lib.hid (few_any n x _ _ g l 0 hx1 (hG.now hb) h0 h1 (by omega) (by omega))
  clear hx hx1 h4
  obtain ⟨q0, q1, q2, q3, q4, q5⟩ := hB.c6
  go_enter Tryz.func37, Tryz.ntmps37
  go_wp2_with fail
  (with_reducible refine HC.out.mono ?_)
  rintro e w2 ⟨b, k, rfl, hG2, hg2, hz⟩
  have hgw2 := gw_trans hgw hg2
  clear q0 q1 q2 q3 q4 q5
  go_wp2_with fail
  go_ret
  refine ⟨_, k, rfl, hG2, hgw2, fun h => hz ?_⟩
  cases b
  · cases h
  · rfl
set_option maxHeartbeats 1000000 in
set_option maxRecDepth 100000 in
theorem indexSm (n : Nat) (tv : Value) (ts : List Ex) (w : World) (g : Nat) (ht : SlE n (Bu g w) w tv ts) (hG : Blk w g 3 #[.int .i64 500]) :
    Calls Tryz.prog 75 #[tv, .func (.func 37) #[] #[.pointer (some ⟨g, 0, none⟩)]] w fun e w' => ∃ z : Int, e = .returned (.int .i64 z) ∧ w.grownBy w' (some g) := by
  have eg : ∀ z w, (callFunc 37 (#[z] ++ #[.pointer (some ⟨g, 0, none⟩)])).run Tryz.prog w = .ok (.enter 37 (#[z] ++ #[.pointer (some ⟨g, 0, none⟩)])) w := fun z w => enters_of Tryz.func37 (by kernel_rfl) rfl _ w
  obtain ⟨A, c, rfl, h1, h2, ht⟩ := ht.open_
  go_enter Tryz.func75, Tryz.ntmps75
  go_wp2_with fail
  go_loopw [8] (fun i wr => ∃ (j : Nat) (k : Int), j ≤ ts.length ∧ i = .int .i64 j ∧ 0 ≤ k ∧ k ≤ 500 ∧ Blk wr g 3 #[.int .i64 k] ∧ w.grownBy wr (some g)) (fun i _ => ts.length - (intOf i).toNat)
  case atStart => exact ⟨0, 500, Nat.zero_le _, rfl, by omega, by omega, hG, World.grownBy.refl _ _⟩
  case round =>
    obtain ⟨j, k, hj, rfl, k1, k2, hGr, hgr⟩ := hrel
    by_cases hlt : j < ts.length
    · have hlr : SlE n (Bu g wr) wr (.slice A ts.length c) ts := Sl.keep ht (RExN.kept n) (bu_now hgr).1 (bu_now hgr).2
      obtain ⟨b, o, t, lv, n', rfl, rfl, hD, hx, hex, hfv, hsl, c0, c1, c2, c3, c4, c5⟩ := hlr.at_ hlt
      have HC := Lib.hid (small1_any n' t _ wr g k hex hGr k1 k2)
      clear hx hex hfv hsl hlr
      go_wp2_with fail
      (with_reducible refine HC.out.mono ?_)
      rintro e w2 ⟨q, z, rfl, hG2, hg2, hz⟩
      have hgw2 := gw_trans hgr hg2
      cases q
      · obtain ⟨z1, z2⟩ := hz rfl
        clear hz
        go_wp2_with fail
        go_roundw
        case rel => exact ⟨j + 1, z, by omega, by go_num, z1, z2, hG2, hgw2⟩
        case measure => simp [intOf]; omega
      · clear hz
        go_wp2_with fail
        go_ret
        exact ⟨_, rfl, hgw2⟩
    · go_wp2_with fail
      go_ret
      exact ⟨_, rfl, hgr⟩
theorem containsSm (n : Nat) (tv : Value) (ts : List Ex) (w : World) (g : Nat) (ht : SlE n (Bu g w) w tv ts) (hG : Blk w g 3 #[.int .i64 500]) :
    Calls Tryz.prog 36 #[tv, .func (.func 37) #[] #[.pointer (some ⟨g, 0, none⟩)]] w fun e w' => ∃ b : Bool, e = .returned (.bool b) ∧ w.grownBy w' (some g) := by
  have HC := Lib.hid (indexSm n tv ts w g ht hG)
  clear ht
  go_enter Tryz.func36, Tryz.ntmps36
  go_wp2_with (go_at_call 75; refine HC.out.mono ?_; rintro e w' ⟨z, rfl, hb'⟩)
  go_ret
  exact ⟨_, rfl, hb'⟩
theorem small_any (n : Nat) (tv : Value) (ts : List Ex) (w : World) (ht : SlE n (Lt w.heap.size) w tv ts) : Calls Tryz.prog 9 #[tv] w (RetQ w) := by
  have hb1 := bone w (.cells #[.int .i64 500] 3)
  have hG := Blk.new w 3 #[.int .i64 500]
  have ht1 : SlE n (Bu w.heap.size (w.alloc (.cells #[.int .i64 500] 3))) (w.alloc (.cells #[.int .i64 500] 3)) tv ts :=
    Sl.keep ht (RExN.kept n) (fun b hb => ⟨Nat.lt_of_lt_of_le hb hb1.size, Nat.ne_of_lt hb⟩) (Same.of_below hb1)
  have HC := Lib.hid (containsSm n tv ts _ _ ht1 hG)
  obtain ⟨A, c, rfl, _, _, _⟩ := ht.open_
  clear ht ht1
  go_enter Tryz.func9, Tryz.ntmps9
  go_wp2_with fail
  (with_reducible refine HC.out.mono ?_)
  rintro e w2 ⟨b, rfl, hg2⟩
  have hb2 := hb1.trans (below_of_grown hg2 hb1.size (fun g e => by injection e with e; omega))
  go_wp2_with fail
  go_ret
  exact ⟨_, rfl, hb2⟩
theorem list2_any (s : ByteArray) (w : World) : Calls Tryz.prog 42 #[.string s] w fun e w' => e = .returned (.bool (decide (300 < (s.size : Int)))) ∧ Below w.heap.size w w' := by
  go_enter Tryz.func42, Tryz.ntmps42
  go_wp2_with fail
  go_ret
  exact ⟨rfl, Below.refl _ _⟩
theorem list1_any (w0 : World) : AsksXW 40 w0 := by
  rintro x v w hb0 ⟨iv, rfl, a1, a2, a3, a4, hi⟩
  obtain ⟨A, c, rfl, h1, h2, hi⟩ := hi.open_
  have eg : ∀ args w, (callFunc 42 args).run Tryz.prog w = .ok (.enter 42 args) w := enters_of Tryz.func42 (by kernel_rfl) rfl
  have hb1 := bone w (.cells #[.string x.name, .int .i64 x.kind, .int .i64 x.low, .int .i64 x.high, .slice A x.items.length c] 68)
  have hB1 := Blk.new w 68 #[.string x.name, .int .i64 x.kind, .int .i64 x.low, .int .i64 x.high, .slice A x.items.length c]
  have HC := Lib.hid (containsFuncS 42 eg _ x.items (fun s => decide (300 < (s.size : Int))) _ (hi.now hb1) (fun s W _ _ _ => list2_any s W))
  generalize x.items.any _ = q at HC
  unfold maxLen at a1
  clear hi
  obtain ⟨q0, q1, q2, q3, q4⟩ := hB1.c5
  go_enter Tryz.func40, Tryz.ntmps40
  by_cases c1 : 1100 < x.items.length
  · go_wp2_with fail
    go_ret
    exact ⟨_, rfl, hb1⟩
  by_cases c2 : 200 < x.name.size
  · go_wp2_with fail
    go_ret
    exact ⟨_, rfl, hb1⟩
  go_wp2_with fail
  (with_reducible refine HC.out.mono ?_)
  rintro e w2 ⟨rfl, hb2⟩
  have hb2w := bthen hb1 hb2
  clear q0 q1 q2 q3 q4
  go_wp2_with fail
  go_ret
  exact ⟨_, rfl, hb2w⟩
def RetList (l : List Var) (w : World) (e : Ending) (w' : World) : Prop := ∃ b, e = .returned (.bool b) ∧ (b = true → l.length ≤ 10) ∧ Below w.heap.size w w'
theorem list_any (l : List Var) (v : Value) (w : World) (h : SlX (Lt w.heap.size) w v l) : Calls Tryz.prog 10 #[v] w (RetList l w) := by
  have eg : ∀ args w, (callFunc 40 args).run Tryz.prog w = .ok (.enter 40 args) w := enters_of Tryz.func40 (by kernel_rfl) rfl
  have HC := Lib.hid (containsXW 40 eg _ l w h (list1_any w))
  obtain ⟨A, c, rfl, _, _, _⟩ := h.open_
  clear h
  go_enter Tryz.func10, Tryz.ntmps10
  by_cases c1 : l.length ≤ 10
  · go_wp2_with fail
    (with_reducible refine HC.out.mono ?_)
    rintro e w2 ⟨b, rfl, hb2⟩
    go_wp2_with fail
    go_ret
    exact ⟨_, rfl, fun _ => c1, hb2⟩
  · go_wp2_with fail
    go_ret
    exact ⟨_, rfl, fun h => (by cases h), Below.refl _ _⟩
end Go.Proofs.YtijmnenojbfdnaaGreatDoor
