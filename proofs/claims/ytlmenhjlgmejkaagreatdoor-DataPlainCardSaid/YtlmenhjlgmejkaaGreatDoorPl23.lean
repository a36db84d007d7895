/- Merged texts. -/
import Derived.Test.YtlmenhjlgmejkaaGreatDoorPl22
set_option linter.all false
namespace Go.Proofs.YtlmenhjlgmejkaaGreatDoor
open Go.RowKit
theorem ex_sound2 : dsoundE (exD 2) 10 = (true, [], 0) := by kernel_rfl
theorem ex_sound1 : dsoundE (exD 1) 10 = (false, [0, 0], 0) := by kernel_rfl
def exS : St := ⟨[1, 0], [⟨2, 0, emptyS⟩]⟩
theorem ex_drun : (drunB (exD 2) exS [0, 0, 0]).2 = (2, 11) := by kernel_rfl
set_option maxHeartbeats 4000000 in
set_option maxRecDepth 100000 in
theorem awake_any (w : World) (ha : Amb w) : Calls Tryz.prog 11 #[] w fun e w' => e = .returned (.bool true) ∧ Below w.heap.size w w' := by
  go_enter Tryz.func11, Tryz.ntmps11
  go_wp2_with fail
  refine (example_any 2 _ kinds.2.1).mono ?_
  rintro e w1 ⟨u1, rfl, hn1, hb1⟩
  have ha1 := ha.now hb1
  go_wp2_with fail
  refine (dsound_any 2 (exD 2) 10 u1 w1 hn1 (by decide) ha1).mono ?_
  rintro e w2 ⟨v2, rfl, hv2, hb2⟩
  rw [ex_sound2] at *
  obtain ⟨A2, c2, rfl, _, _, hv2⟩ := hv2.open_
  have hbw2 := bthen hb1 hb2
  have ha2 := ha1.now hb2
  go_wp2_with fail
  refine (example_any 1 _ kinds.1).mono ?_
  rintro e w3 ⟨u3, rfl, hn3, hb3⟩
  have ha3 := ha2.now hb3
  go_wp2_with fail
  refine (dsound_any 2 (exD 1) 10 u3 w3 hn3 (by decide) ha3).mono ?_
  rintro e w4 ⟨v4, rfl, hv4, hb4⟩
  rw [ex_sound1] at *
  have hbw4 := bthen (bthen hbw2 hb3) hb4
  go_wp2_with fail
  refine (example_any 2 _ kinds.2.1).mono ?_
  rintro e w5 ⟨u5, rfl, hn5, hb5⟩
  have hv5 := hv4.now hb5
  have hbw5 := bthen hbw4 hb5
  have hbA := bone w5 (.cells #[.int .i64 1, .int .i64 0] 3)
  have hsA := World.size_alloc w5 (.cells #[.int .i64 1, .int .i64 0] 3)
  have hA := SlI.ofBlk (zs := [1, 0]) (Blk.new w5 3 #[.int .i64 1, .int .i64 0]) (by unfold maxLen; simp) (by simp [Fit])
  have hbB := bone (w5.alloc (.cells #[.int .i64 1, .int .i64 0] 3)) (.cells #[.int .i64 2, .int .i64 0, .string ⟨#[]⟩] 63)
  have hsB := World.size_alloc (w5.alloc (.cells #[.int .i64 1, .int .i64 0] 3)) (.cells #[.int .i64 2, .int .i64 0, .string ⟨#[]⟩] 63)
  have hB := Sl.fresh1 (R := RVal) (x := (⟨2, 0, emptyS⟩ : Val)) (t := 63) (es := [.int .i64 2, .int .i64 0, .string ⟨#[]⟩]) (Nat.le_refl (w5.alloc (.cells #[.int .i64 1, .int .i64 0] 3)).heap.size) RVal.kept rfl ⟨rfl, kinds.2.1, kinds.2.2.1, size_small _ (by decide)⟩
  have hbC := bone ((w5.alloc (.cells #[.int .i64 1, .int .i64 0] 3)).alloc (.cells #[.int .i64 2, .int .i64 0, .string ⟨#[]⟩] 63)) (.cells #[.int .i64 0, .int .i64 0, .int .i64 0] 3)
  have hC := SlI.ofBlk (zs := [0, 0, 0]) (Blk.new ((w5.alloc (.cells #[.int .i64 1, .int .i64 0] 3)).alloc (.cells #[.int .i64 2, .int .i64 0, .string ⟨#[]⟩] 63)) 3 #[.int .i64 0, .int .i64 0, .int .i64 0]) (by unfold maxLen; simp) (by simp [Fit])
  have hB : SlV (Lt _) _ _ [⟨2, 0, emptyS⟩] := SlV.weak hB
  have HS : Hid (IsSt (Lt _) _ _ exS) := Lib.hid ⟨_, _, rfl, (hA.now hbB).now hbC, hB.now hbC⟩
  have HN := Lib.hid (((hn5.now hbA).now hbB).now hbC)
  have HC := Lib.hid hC
  have HV := Lib.hid (((hv5.now hbA).now hbB).now hbC)
  have HB := Lib.hid (bthen (bthen (bthen hbw5 hbA) hbB) hbC)
  rw [hsB, hsA] at HC
  rw [hsA] at HS
  clear hA hB hC hsA hsB hbA hbB hbC
  go_wp2_with fail
  refine (drun_any 2 (exD 2) exS [0, 0, 0] u5 _ _ _ HN.out HS.out HC.out (by decide)).mono ?_
  rintro e w9 ⟨u9, rfl, hs9, hb9⟩
  rw [ex_drun]
  have hv9 := HV.out.now hb9
  have hbw9 := bthen HB.out hb9
  obtain ⟨Am, cm, Av, cv, rfl, _, _, ⟨_, _⟩, _, _⟩ := hs9.open_
  clear HN HS HC HV HB hs9
  generalize (drunB (exD 2) exS [0, 0, 0]).fst = s9
  rw [show (((2, 11) : Nat × Int).fst : Int) = 2 from rfl, show (((2, 11) : Nat × Int).snd : Int) = 11 from rfl]
  have hb10 := bone w9 (.cells #[.slice Am s9.marks.length cm, .slice Av s9.vals.length cv] 33)
  have hv10 := hv9.now hb10
  have hbw10 := bthen hbw9 hb10
  have hb11 := bone (w9.alloc (.cells #[.slice Am s9.marks.length cm, .slice Av s9.vals.length cv] 33)) (.cells #[.int .i64 0, .int .i64 0] 3)
  have HZ := Lib.hid (SlI.ofBlk (zs := [0, 0]) (Blk.new (w9.alloc (.cells #[.slice Am s9.marks.length cm, .slice Av s9.vals.length cv] 33)) 3 #[.int .i64 0, .int .i64 0]) (by unfold maxLen; simp) (by simp [Fit]))
  rw [World.size_alloc w9] at HZ
  have HV := Lib.hid (hv10.now hb11)
  have HB := Lib.hid (bthen hbw10 hb11)
  clear hb10 hv10 hbw10 hb11
  go_wp2_with fail
  refine (equalI _ _ [0, 0] [0, 0] _ HV.out HZ.out).mono ?_
  rintro e w12 ⟨rfl, q, rfl⟩
  rw [show (([0, 0] : List Int) == [0, 0]) = true from rfl]
  have HB := Lib.hid (bdrawn HB.out q)
  go_wp2_with fail
  go_ret
  exact ⟨rfl, HB.out⟩
theorem gw_set (w : World) (g k : Nat) (u : Value) : w.grownBy (w.setCell ⟨g, k, none⟩ u) (some g) :=
  ⟨rfl, rfl, rfl, by rw [World.size_setCell]; exact Nat.le_refl _, fun i _ hne => Below.heap_setCell w ⟨g, k, none⟩ u i (fun e => hne (by rw [e]))⟩
theorem gw_trans {a b c : World} {row : Option Nat} (h : a.grownBy b row) (k : b.grownBy c row) : a.grownBy c row :=
  ⟨k.os.trans h.os, k.tape.trans h.tape, k.output.trans h.output, Nat.le_trans h.size k.size, fun i hi hne => (k.block i (Nat.lt_of_lt_of_le hi h.size) hne).trans (h.block i hi hne)⟩
theorem gw_below {a b c : World} {row : Option Nat} (h : a.grownBy b row) (k : Below b.heap.size b c) : a.grownBy c row := gw_trans h (grown_of_below k row)
theorem grown_drewN' {a b : World} {row : Option Nat} (h : a.grownBy b row) (n : Nat) : a.grownBy (b.drewN n) row := ⟨h.os, h.tape, h.output, h.size, h.block⟩
def RetQ (w : World) (e : Ending) (w' : World) : Prop := ∃ b, e = .returned (.bool b) ∧ Below w.heap.size w w'
def Bu (g : Nat) (w : World) (b : Nat) : Prop := b < w.heap.size ∧ b ≠ g
theorem bu_now {g : Nat} {w w' : World} (h : w.grownBy w' (some g)) : (∀ b, Bu g w b → Bu g w' b) ∧ Same (Bu g w) w w' :=
  ⟨fun _ hb => ⟨Nat.lt_of_lt_of_le hb.1 h.size, hb.2⟩, fun b hb => h.block b hb.1 (fun e => hb.2 (by cases e; rfl))⟩
def SzR (g : Nat) (w : World) (e : Ending) (w' : World) : Prop := ∃ b k, e = .returned (.bool b) ∧ Blk w' g 3 #[.int .i64 k] ∧ w.grownBy w' (some g) ∧ (b = true → 0 ≤ k ∧ k ≤ 400)
set_option maxHeartbeats 4000000 in
set_option maxRecDepth 100000 in
theorem size_any : ∀ (n : Nat) (x : Ex) (u : Value) (w : World) (g : Nat) (l d : Int), IsEx n (Bu g w) w u x → Blk w g 3 #[.int .i64 l] → 0 ≤ l → l ≤ 400 → 0 ≤ d → d ≤ 71 →
    Calls Tryz.prog 26 #[u, .pointer (some ⟨g, 0, none⟩), .int .i64 d] w (SzR g w) := by
  intro n
  induction n using Nat.strongRecOn with
  | _ n ih =>
    intro x u w g l d h hG ha1 ha2 hd1 hd2
    obtain ⟨lv, rfl, h1, h2, h3, h4⟩ := h
    obtain ⟨A, c, rfl, l1, l2, h4⟩ := SlE.open_ h4
    have hgl := hG.lt
    have hb := bone w (.cells #[.int .i64 x.op, .int .i64 x.v.kind, .int .i64 x.v.n, .string x.v.s, .string x.s, .slice A x.l.length c] 65)
    have hB := Blk.new w 65 #[.int .i64 x.op, .int .i64 x.v.kind, .int .i64 x.v.n, .string x.v.s, .string x.s, .slice A x.l.length c]
    have hgw := grown_of_below hb (some g)
    have hl1 := Sl.keep h4 (RExN.kept n) (bu_now hgw).1 (bu_now hgw).2
    have hG1 := hG.now hb
    clear h4
    generalize hw1 : w.alloc (.cells #[.int .i64 x.op, .int .i64 x.v.kind, .int .i64 x.v.n, .string x.v.s, .string x.s, .slice A x.l.length c] 65) = w1 at *
    obtain ⟨q0, q1, q2, q3, q4, q5⟩ := hB.c6
    have p0 := hG1.c1
    have p1 := hG1.frozen 0
    obtain ⟨_, _, hsv⟩ := h2
    unfold maxLen at h3 hsv
    have wp1 : IntKind.i64.wrap ((x.s.size : Int) / 100) = (x.s.size : Int) / 100 := IntWalk.i64_in _ (by omega)
    have wp2 : IntKind.i64.wrap (1 + (x.s.size : Int) / 100) = 1 + (x.s.size : Int) / 100 := IntWalk.i64_in _ (by omega)
    have wp3 : IntKind.i64.wrap ((x.v.s.size : Int) / 100) = (x.v.s.size : Int) / 100 := IntWalk.i64_in _ (by omega)
    have wp4 : IntKind.i64.wrap (1 + (x.s.size : Int) / 100 + (x.v.s.size : Int) / 100) = 1 + (x.s.size : Int) / 100 + (x.v.s.size : Int) / 100 := IntWalk.i64_in _ (by omega)
    have wp5 : IntKind.i64.wrap (l - (1 + (x.s.size : Int) / 100 + (x.v.s.size : Int) / 100)) = l - (1 + (x.s.size : Int) / 100 + (x.v.s.size : Int) / 100) := IntWalk.i64_in _ (by omega)
    have hle : l - (1 + (x.s.size : Int) / 100 + (x.v.s.size : Int) / 100) ≤ 400 := by omega
    have HW := Lib.hid (And.intro wp1 (And.intro wp2 (And.intro wp3 (And.intro wp4 wp5))))
    clear h3 hsv h1
    go_enter Tryz.func26, Tryz.ntmps26
    go_wp2_with fail
    go_still_tail 16, (by kernel_rfl)
    change wpList _ _ _ _ _ w1.drew
    go_upto_region 2 with fail
    clear wp1 wp2 wp3 wp4 wp5 p0 p1 q0 q1 q2 q3 q4 q5
    generalize hl' : l - (1 + (x.s.size : Int) / 100 + (x.v.s.size : Int) / 100) = l' at *
    have hgs := gw_trans hgw (gw_set w1 g 0 (.int .i64 l'))
    have hgs2 := gw_set w1 g 0 (.int .i64 l')
    have hG2 : Blk (w1.setCell ⟨g, 0, none⟩ (.int .i64 l')).drew g 3 #[.int .i64 l'] := (hG1.set_ 0 (.int .i64 l')).drew
    have hB2 : Blk (w1.setCell ⟨g, 0, none⟩ (.int .i64 l')).drew w.heap.size 65 _ := (hB.grown hgs2 (by intro e; injection e with e; omega)).drew
    have hgs3 := grown_drewN' hgs 1
    have hl2 : Sl 6 (RExN n) (Bu g (w1.setCell ⟨g, 0, none⟩ (.int .i64 l')).drew) (w1.setCell ⟨g, 0, none⟩ (.int .i64 l')).drew (.slice A x.l.length c) x.l := Sl.keep (Sl.keep hl1 (RExN.kept n) (bu_now hgs2).1 (bu_now hgs2).2) (RExN.kept n) (fun _ h => h) (fun _ _ => rfl)
    have hgw2 : w.grownBy (w1.setCell ⟨g, 0, none⟩ (.int .i64 l')).drew (some g) := grown_drewN' hgs 1
    clear hgs hgs2 hgs3 hB hG1 hl1 hgw hb hw1
    generalize (w1.setCell ⟨g, 0, none⟩ (.int .i64 l')).drew = w2 at *
    obtain ⟨q0, q1, q2, q3, q4, q5⟩ := hB2.c6
    have p0 := hG2.c1
    by_cases c1 : l' < 0
    · go_wp2_with fail
      go_ret
      exact ⟨false, l', rfl, hG2, hgw2, fun h => by cases h⟩
    by_cases c2 : d > 70
    · go_wp2_with fail
      go_ret
      exact ⟨false, l', rfl, hG2, hgw2, fun h => by cases h⟩
    go_wp2_with fail
    go_loopw [36] (fun i wr => ∃ (k : Nat) (z : Int), k ≤ x.l.length ∧ i = .int .i64 k ∧ 0 ≤ z ∧ z ≤ 400 ∧ Blk wr g 3 #[.int .i64 z] ∧ w.grownBy wr (some g) ∧ w2.grownBy wr (some g)) (fun i _ => x.l.length - (intOf i).toNat)
    case atStart => exact ⟨0, l', Nat.zero_le _, rfl, by omega, by omega, hG2, hgw2, World.grownBy.refl _ _⟩
    case round =>
      obtain ⟨k, z, hk, rfl, z1, z2, hGr, hgr, hgr2⟩ := hrel
      by_cases hlt : k < x.l.length
      · have hlr : SlE n (Bu g wr) wr (.slice A x.l.length c) x.l := Sl.keep hl2 (RExN.kept n) (bu_now hgr2).1 (bu_now hgr2).2
        obtain ⟨b, o, y, lv, n', hn, rfl, hD, hx, hex, hfv, hsl, e0, e1, e2, e3, e4, e5⟩ := hlr.at_ hlt
        have hsl := hsl
        obtain ⟨A2, c2', rfl, m1, m2, _⟩ := SlE.open_ hsl
        have hb3 := bone wr (.cells #[.int .i64 y.op, .int .i64 y.v.kind, .int .i64 y.v.n, .string y.v.s, .string y.s, .slice A2 y.l.length c2'] 65)
        have hg3 := grown_of_below hb3 (some g)
        have wd : IntKind.i64.wrap (d + 1) = d + 1 := IntWalk.i64_in _ (by omega)
        have hcall := Lib.hid (ih n' (by omega) y _ _ g z (d + 1) (hex.keep (bu_now hg3).1 (bu_now hg3).2) (hGr.now hb3) z1 z2 (by omega) (by omega))
        clear hx hex hfv hsl hn hlr hD
        go_wp2_with fail
        refine hcall.out.mono ?_
        rintro e w4 ⟨ok, z', rfl, hG4, hg4, hz⟩
        have hgw4 : w.grownBy w4 (some g) := gw_trans (gw_below hgr hb3) hg4
        have hgw4' : w2.grownBy w4 (some g) := gw_trans (gw_below hgr2 hb3) hg4
        cases ok
        · go_wp2_with fail
          go_ret
          exact ⟨false, z', rfl, hG4, hgw4, fun h => by cases h⟩
        · have hz' := hz rfl
          clear hz
          go_wp2_with fail
          go_roundw
          case rel => exact ⟨k + 1, z', by omega, by go_num, hz'.1, hz'.2, hG4, hgw4, hgw4'⟩
          case measure => simp [intOf]; omega
      · go_wp2_with fail
        go_ret
        exact ⟨true, z, rfl, hGr, hgr, fun _ => ⟨z1, z2⟩⟩
def AsksTW (k : FuncId) (w : World) : Prop := ∀ (x : Tr) (v : Value) (W : World), Below w.heap.size w W → IsTr (Lt W.heap.size) W v x → Calls Tryz.prog k #[v] W (RetQ W)
set_option maxHeartbeats 1000000 in
theorem indexTW (k : FuncId) (eg : ∀ args w, (callFunc k args).run Tryz.prog w = .ok (.enter k args) w) (tv : Value) (ts : List Tr) (w : World) (ht : SlT (Lt w.heap.size) w tv ts) (hf : AsksTW k w) :
    Calls Tryz.prog 101 #[tv, .func (.func k) #[] #[]] w fun e w' => ∃ z : Int, e = .returned (.int .i64 z) ∧ Below w.heap.size w w' := by
  obtain ⟨A, c, rfl, h1, h2, ht⟩ := ht.open_
  have HF := Lib.hid hf
  clear hf
  go_enter Tryz.func101, Tryz.ntmps101
  go_wp2_with fail
  go_loopw [8] (fun i wr => ∃ j : Nat, j ≤ ts.length ∧ i = .int .i64 j ∧ Below w.heap.size w wr) (fun i _ => ts.length - (intOf i).toNat)
  case atStart => exact ⟨0, Nat.zero_le _, rfl, Below.refl _ _⟩
  case round =>
    obtain ⟨j, hj, rfl, hb⟩ := hrel
    by_cases hlt : j < ts.length
    · obtain ⟨b, o, x, iv, ov, rfl, hD, hx, hl, hi, ho, c0, c1, c2⟩ := (ht.below hb hb.size).at_ hlt
      have HC := Lib.hid (HF.out x _ wr hb ⟨iv, ov, rfl, hl, hi, ho⟩)
      go_wp2_with (go_at_fn k; refine HC.out.mono ?_; rintro e w' ⟨q, rfl, hb'⟩)
      · go_ret
        exact ⟨_, rfl, bthen hb hb'⟩
      · go_roundw
        case rel => exact ⟨j + 1, by omega, by go_num, bthen hb hb'⟩
        case measure => simp [intOf]; omega
    · go_wp2_with fail
      go_ret
      exact ⟨_, rfl, hb⟩
theorem containsTW (k : FuncId) (eg : ∀ args w, (callFunc k args).run Tryz.prog w = .ok (.enter k args) w) (tv : Value) (ts : List Tr) (w : World) (ht : SlT (Lt w.heap.size) w tv ts) (hf : AsksTW k w) :
    Calls Tryz.prog 57 #[tv, .func (.func k) #[] #[]] w (RetQ w) := by
  have HC := Lib.hid (indexTW k eg tv ts w ht hf)
  clear hf ht
  go_enter Tryz.func57, Tryz.ntmps57
  go_wp2_with (go_at_call 101; refine HC.out.mono ?_; rintro e w' ⟨z, rfl, hb'⟩)
  go_ret
  exact ⟨_, rfl, hb'⟩
def AsksXW (k : FuncId) (w : World) : Prop := ∀ (x : Var) (v : Value) (W : World), Below w.heap.size w W → IsVar (Lt W.heap.size) W v x → Calls Tryz.prog k #[v] W (RetQ W)
set_option maxHeartbeats 1000000 in
theorem indexXW (k : FuncId) (eg : ∀ args w, (callFunc k args).run Tryz.prog w = .ok (.enter k args) w) (tv : Value) (ts : List Var) (w : World) (ht : SlX (Lt w.heap.size) w tv ts) (hf : AsksXW k w) :
    Calls Tryz.prog 102 #[tv, .func (.func k) #[] #[]] w fun e w' => ∃ z : Int, e = .returned (.int .i64 z) ∧ Below w.heap.size w w' := by
  obtain ⟨A, c, rfl, h1, h2, ht⟩ := ht.open_
  have HF := Lib.hid hf
  clear hf
  go_enter Tryz.func102, Tryz.ntmps102
  go_wp2_with fail
  go_loopw [8] (fun i wr => ∃ j : Nat, j ≤ ts.length ∧ i = .int .i64 j ∧ Below w.heap.size w wr) (fun i _ => ts.length - (intOf i).toNat)
  case atStart => exact ⟨0, Nat.zero_le _, rfl, Below.refl _ _⟩
  case round =>
    obtain ⟨j, hj, rfl, hb⟩ := hrel
    by_cases hlt : j < ts.length
    · obtain ⟨b, o, x, iv, rfl, hD, hx, hvar, hiv, c0, c1, c2, c3, c4⟩ := (ht.now hb).at_ hlt
      have HC := Lib.hid (HF.out x _ wr hb hvar)
      go_wp2_with (go_at_fn k; refine HC.out.mono ?_; rintro e w' ⟨q, rfl, hb'⟩)
      · go_ret
        exact ⟨_, rfl, bthen hb hb'⟩
      · go_roundw
        case rel => exact ⟨j + 1, by omega, by go_num, bthen hb hb'⟩
        case measure => simp [intOf]; omega
    · go_wp2_with fail
      go_ret
      exact ⟨_, rfl, hb⟩
theorem containsXW (k : FuncId) (eg : ∀ args w, (callFunc k args).run Tryz.prog w = .ok (.enter k args) w) (tv : Value) (ts : List Var) (w : World) (ht : SlX (Lt w.heap.size) w tv ts) (hf : AsksXW k w) :
    Calls Tryz.prog 59 #[tv, .func (.func k) #[] #[]] w (RetQ w) := by
  have HC := Lib.hid (indexXW k eg tv ts w ht hf)
  clear hf ht
  go_enter Tryz.func59, Tryz.ntmps59
  go_wp2_with (go_at_call 102; refine HC.out.mono ?_; rintro e w' ⟨z, rfl, hb'⟩)
  go_ret
  exact ⟨_, rfl, hb'⟩
theorem few1_any (w0 : World) : AsksTW 58 w0 := by
  rintro t v w hb0 ⟨iv, ov, rfl, hl, hi, ho⟩
  obtain ⟨A, c, rfl, h1, h2, _⟩ := hi.open_
  obtain ⟨A', c', rfl, h1', h2', _⟩ := ho.open_
  unfold maxLen at hl
  have hb := bone w (.cells #[.string t.label, .slice A t.ins.length c, .slice A' t.outs.length c'] 112)
  clear hi ho
  generalize t.ins.length = a at *
  generalize t.outs.length = b at *
  generalize hsz : t.label.size = d at *
  by_cases ha : 20 < a
  · go_enter Tryz.func58, Tryz.ntmps58
    go_wp2_with fail
    go_ret
    exact ⟨_, rfl, hb⟩
  by_cases hbb : 20 < b
  · go_enter Tryz.func58, Tryz.ntmps58
    go_wp2_with fail
    go_ret
    exact ⟨_, rfl, hb⟩
  go_enter Tryz.func58, Tryz.ntmps58
  go_wp2_with fail
  go_ret
  exact ⟨_, rfl, hb⟩
theorem few21_any (s : ByteArray) (w : World) : Calls Tryz.prog 62 #[.string s] w fun e w' => e = .returned (.bool (decide (300 < (s.size : Int)))) ∧ Below w.heap.size w w' := by
  go_enter Tryz.func62, Tryz.ntmps62
  go_wp2_with fail
  go_ret
  exact ⟨rfl, Below.refl _ _⟩
theorem few2_any (w0 : World) : AsksXW 60 w0 := by
  have eg : ∀ args w, (callFunc 62 args).run Tryz.prog w = .ok (.enter 62 args) w := enters_of Tryz.func62 (by kernel_rfl) rfl
  rintro t v w hb0 ⟨iv, rfl, hl, k1, k2, k3, hi⟩
  obtain ⟨A, c, rfl, h1, h2, hi⟩ := hi.open_
  unfold maxLen at hl
  have hb := bone w (.cells #[.string t.name, .int .i64 t.kind, .int .i64 t.low, .int .i64 t.high, .slice A t.items.length c] 117)
  have HC := Lib.hid (containsFuncS 62 eg _ _ (fun s => decide (300 < (s.size : Int))) _ (hi.now hb) (fun s W _ _ _ => few21_any s W))
  clear hi
  generalize t.items.any _ = q at HC
  generalize t.items.length = a at *
  generalize hsz : t.name.size = d at *
  by_cases ha : 30 < a
  · go_enter Tryz.func60, Tryz.ntmps60
    go_wp2_with fail
    go_ret
    exact ⟨_, rfl, hb⟩
  by_cases hbb : 100 < d
  · go_enter Tryz.func60, Tryz.ntmps60
    go_wp2_with fail
    go_ret
    exact ⟨_, rfl, hb⟩
  go_enter Tryz.func60, Tryz.ntmps60
  go_wp2_with (go_at_call 61; refine HC.out.mono ?_; rintro e w' ⟨rfl, hb'⟩)
  go_ret
  exact ⟨_, rfl, bthen hb hb'⟩
theorem short1_any (v : Val) (w : World) (hf : FitV v) : Calls Tryz.prog 105 #[valV v] w fun e w' => e = .returned (.bool (decide (300 < (v.s.size : Int)))) ∧ Below w.heap.size w w' := by
  have hb := bone w (.cells #[.int .i64 v.kind, .int .i64 v.n, .string v.s] 63)
  unfold valV
  go_enter Tryz.func105, Tryz.ntmps105
  go_wp2_with fail
  go_ret
  exact ⟨rfl, hb⟩
theorem short_any (vs : List Val) (v : Value) (w : World) (h : SlV (Lt w.heap.size) w v vs) : Calls Tryz.prog 63 #[v] w (RetQ w) := by
  have eg : ∀ args w, (callFunc 105 args).run Tryz.prog w = .ok (.enter 105 args) w := enters_of Tryz.func105 (by kernel_rfl) rfl
  have HC := Lib.hid (containsFuncV 105 eg _ _ (fun v => decide (300 < (v.s.size : Int))) _ h (fun v W _ hf _ => short1_any v W hf))
  obtain ⟨A, c, rfl, h1, h2, _⟩ := h.open_
  clear h
  generalize vs.any _ = q at HC
  generalize vs.length = a at *
  by_cases ha : a ≤ 10
  · go_enter Tryz.func63, Tryz.ntmps63
    go_wp2_with (go_at_call 104; refine HC.out.mono ?_; rintro e w' ⟨rfl, hb'⟩)
    go_ret
    exact ⟨_, rfl, hb'⟩
  · go_enter Tryz.func63, Tryz.ntmps63
    go_wp2_with fail
    go_ret
    exact ⟨_, rfl, Below.refl _ _⟩
def noneB (s : St) : Bool := s.marks.isEmpty && s.vals.isEmpty
end Go.Proofs.YtlmenhjlgmejkaaGreatDoor
