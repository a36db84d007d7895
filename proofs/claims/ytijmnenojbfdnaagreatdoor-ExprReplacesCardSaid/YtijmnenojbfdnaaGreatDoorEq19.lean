/- Texts of this seat, merged. -/
import Derived.Deep.CutBlock
import Derived.Test.YtijmnenojbfdnaaGreatDoorEq01
import Derived.Test.YtijmnenojbfdnaaGreatDoorEq02
import Derived.Test.YtijmnenojbfdnaaGreatDoorEq03
import Derived.Test.YtijmnenojbfdnaaGreatDoorEq04
import Derived.Test.YtijmnenojbfdnaaGreatDoorEq05
import Derived.Test.YtijmnenojbfdnaaGreatDoorEq06
import Derived.Test.YtijmnenojbfdnaaGreatDoorEq07
import Derived.Test.YtijmnenojbfdnaaGreatDoorEq08
import Derived.Test.YtijmnenojbfdnaaGreatDoorEq09
import Derived.Test.YtijmnenojbfdnaaGreatDoorEq10
import Derived.Test.YtijmnenojbfdnaaGreatDoorEq11
import Derived.Test.YtijmnenojbfdnaaGreatDoorEq12
import Derived.Test.YtijmnenojbfdnaaGreatDoorEq15
import Derived.Test.YtijmnenojbfdnaaGreatDoorEq16
import Derived.Test.YtijmnenojbfdnaaGreatDoorEq17
import Derived.Test.YtijmnenojbfdnaaGreatDoorEq18
set_option linter.unusedSimpArgs false
set_option linter.unusedVariables false
namespace Go.Proofs.YtijmnenojbfdnaaGreatDoor
open Go.RowKit
section
variable {P : Program} {o : Oper} {a : Act} {w : World} {K : Act → World → Prop} {Q : Exit → Act → World → Prop}
theorem wpM_move (x : Operand) (V : Value) (ho : o.op = .move x) (hv : a.eval x = V) (h : K (a.put o.dst V) w) : o.wp P a w K Q := by
  unfold Oper.wp execOp
  simp only [ho, hv]
  exact h
theorem wpM_build (t : TypeId) (parts : Array (Nat × Operand)) (V : Value) (vals : Array (Nat × Value)) (ho : o.op = .build t parts) (hv : (parts.map fun (i, x) => (i, a.eval x)) = vals) (hr : (Instr.build t vals).run P w = .ok V w) (h : K (a.put o.dst V) w) : o.wp P a w K Q := by
  unfold Oper.wp execOp
  simp only [ho, hv, Sem.run_bind, hr, Result.andThen_ok]
  exact h
end
theorem wpM_callEx {o : Oper} {a : Act} {w : World} {K : Act → World → Prop} {Q : Exit → Act → World → Prop} (x : Operand) (args : Array Operand) (vals : Array Value) (ts : Array TypeId) (ho : o.op = .call { callee := .value x, args := args, argTypes := ts }) (hx : a.eval x = .func (.func 74) #[] #[]) (hv : args.map a.eval = vals)
    (h : Calls Tryz.prog 74 vals w fun e w' => ∃ v, e = .returned v ∧ K (a.put o.dst v) w') : o.wp Tryz.prog a w K Q := by
  unfold Oper.wp execOp
  simp only [ho]
  generalize a.eval = ρ at hx hv ⊢
  simp [hx, hv, go_sem]
  refine h.mono ?_
  rintro e w' ⟨v, rfl, hK⟩
  exact hK
theorem bX2 (a1 a2 a3 b1 b2 b3 : Int) (s1 s2 r1 r2 : ByteArray) (A B : Option Addr) (n m c d : Nat) (W : World) : (Instr.buildSlice 26 2 #[(0, .agg #[.int .i64 a1, .int .i64 a2, .int .i64 a3, .string s1, .string s2, .slice A n c]), (1, .agg #[.int .i64 b1, .int .i64 b2, .int .i64 b3, .string r1, .string r2, .slice B m d])]).run Tryz.prog W =
    .ok (.slice (some ⟨W.heap.size, 0, none⟩) 2 2) (W.alloc (.cells #[.int .i64 a1, .int .i64 a2, .int .i64 a3, .string s1, .string s2, .slice A n c, .int .i64 b1, .int .i64 b2, .int .i64 b3, .string r1, .string r2, .slice B m d] 28)) := by kernel_rfl
theorem bE2 (op : Int) (A : Option Addr) (n c : Nat) (W : World) : (Instr.build 28 #[(0, .int .i64 op), (3, .slice A n c)]).run Tryz.prog W = .ok (.agg #[.int .i64 op, .int .i64 0, .int .i64 0, .string ⟨#[]⟩, .string ⟨#[]⟩, .slice A n c]) W := by kernel_rfl
def r21F (g : Nat) (A : Option Addr) (c : Nat) (L : List Tok) (q op lv : Nat) (xv : Value) (x y : Ex) (j : Nat) : Nat → Value → World → Prop
  | 0, v, _ => v = .int .i64 (op : Int)
  | 1, v, _ => v = xv
  | 2, v, _ => v = .pointer (some ⟨g, 0, none⟩)
  | 3, v, _ => v = .int .i64 (lv : Int)
  | 4, v, _ => v = .int .i64 ((lv : Int) + 1)
  | 5, v, W => (IsPs W g A c L j ∧ j < L.length) ∧ ∃ m, IsEx m (DX q W) W v y
  | 6, v, W => (IsPs W g A c L j ∧ j < L.length) ∧ ∃ (m b : Nat), v = .slice (some ⟨b, 0, none⟩) 2 2 ∧ SlE m (DX q W) W v [x, y]
  | 7, v, W => (IsPs W g A c L j ∧ j < L.length) ∧ ∃ (m b : Nat), v = .agg #[.int .i64 (op : Int), .int .i64 0, .int .i64 0, .string ⟨#[]⟩, .string ⟨#[]⟩, .slice (some ⟨b, 0, none⟩) 2 2] ∧ IsEx m (DX q W) W v (nodeB op [x, y])
  | _, _, _ => True
def B21 (g : Nat) (A : Option Addr) (c : Nat) (L : List Tok) (j : Nat) (a b : World) : Prop := a.grownBy b (some g) ∧ (IsPs a g A c L j → IsPs b g A c L j)
theorem B21.refl {g : Nat} {A : Option Addr} {c : Nat} {L : List Tok} {j : Nat} (w : World) : B21 g A c L j w w := ⟨grown_of_below (Below.refl _ _) _, id⟩
theorem B21.trans {g : Nat} {A : Option Addr} {c : Nat} {L : List Tok} {j : Nat} {u v w : World} (h : B21 g A c L j u v) (k : B21 g A c L j v w) : B21 g A c L j u w := ⟨lexGrownT h.1 k.1, fun e => k.2 (h.2 e)⟩
theorem B21.below {g : Nat} {A : Option Addr} {c : Nat} {L : List Tok} {j : Nat} {u v : World} (h : Below u.heap.size u v) : B21 g A c L j u v := ⟨grown_of_below h _, fun e => IsPs.now e h⟩
theorem r21F_keep {g : Nat} {A : Option Addr} {c : Nat} {L : List Tok} {q op lv : Nat} {xv : Value} {x y : Ex} {j : Nat} (hq : g ≤ q) (k : Nat) (v : Value) (W W' : World) (h : r21F g A c L q op lv xv x y j k v W) (hb : B21 g A c L j W W') : r21F g A c L q op lv xv x y j k v W' := by
  match k, h with
  | 0, h | 1, h | 2, h | 3, h | 4, h => exact h
  | 5, h =>
    obtain ⟨h1, m, h2⟩ := h
    exact ⟨⟨hb.2 h1.1, h1.2⟩, m, h2.grownX hq hb.1⟩
  | 6, h =>
    obtain ⟨h1, m, b, h2, h3⟩ := h
    exact ⟨⟨hb.2 h1.1, h1.2⟩, m, b, h2, Sl.keep h3 (RExN.kept m) (fun _ hd => ⟨hd.1, Nat.lt_of_lt_of_le hd.2 hb.1.size⟩) (DX.same hq hb.1)⟩
  | 7, h =>
    obtain ⟨h1, m, b, h2, h3⟩ := h
    exact ⟨⟨hb.2 h1.1, h1.2⟩, m, b, h2, h3.grownX hq hb.1⟩
  | n + 8, h => exact trivial
end Go.Proofs.YtijmnenojbfdnaaGreatDoor

namespace Go.Proofs.YtijmnenojbfdnaaGreatDoor
open Go.RowKit
set_option maxHeartbeats 4000000 in
set_option maxRecDepth 100000 in
theorem expr_of (L : List Tok) (hL : TokOk L) (f : Nat) (hf : f ≤ 1000) (hXI : ∀ f' < f, ExprC L f') (hAI : ∀ f' < f, AtomC L f') : ExprC L f := by
  intro g A c i least R q w hgq hqw hl h hi hle hr
  obtain ⟨f', rfl, hnif, hcase⟩ := exB_step hr
  have HCS := Lib.hid hcase
  have HXI := Lib.hid hXI
  have HAI := Lib.hid hAI
  have hLL := hL.len
  have hglt : g < w.heap.size := Blk.lt h
  clear hcase hXI hAI hr
  have hb1 := bbox (bone w (.cells #[.int .i64 0, .int .i64 0, .int .i64 0, .string ⟨#[]⟩, .string ⟨#[]⟩, .slice none 0 0] 28)) (.cells #[.int .i64 0, .int .i64 0, .int .i64 0, .string ⟨#[]⟩, .string ⟨#[]⟩, .slice none 0 0] 28)
  have hR1 := (Blk.new w 28 #[.int .i64 0, .int .i64 0, .int .i64 0, .string ⟨#[]⟩, .string ⟨#[]⟩, .slice none 0 0]).alloc (.cells #[.int .i64 0, .int .i64 0, .int .i64 0, .string ⟨#[]⟩, .string ⟨#[]⟩, .slice none 0 0] 28)
  have hX1 := Blk.new_at (t := 28) (cs := #[.int .i64 0, .int .i64 0, .int .i64 0, .string ⟨#[]⟩, .string ⟨#[]⟩, .slice none 0 0]) (w := w.alloc (.cells #[.int .i64 0, .int .i64 0, .int .i64 0, .string ⟨#[]⟩, .string ⟨#[]⟩, .slice none 0 0] 28)) (s := w.heap.size + 1) (World.size_alloc _ _)
  go_enter Tryz.func74, Tryz.ntmps74
  go_upto_block 0 with fail
  generalize hw1 : ((w.alloc (.cells #[.int .i64 0, .int .i64 0, .int .i64 0, .string ⟨#[]⟩, .string ⟨#[]⟩, .slice none 0 0] 28)).alloc (.cells #[.int .i64 0, .int .i64 0, .int .i64 0, .string ⟨#[]⟩, .string ⟨#[]⟩, .slice none 0 0] 28)) = w1 at *
  clear hw1
  have h1 := IsPs.now h hb1
  have hg1 := grown_of_below hb1 (some g)
  have hsz1 := hX1.lt
  clear hb1 h
  have htk1 := fun (s : ByteArray) (W : World) (hg : w.grownBy W (some g)) (hp : IsPs W g A c L i) => take_any g A c L i s W hi (Lt g) (Sl.below hl RTok.kept (below_of_grown hg (Nat.le_of_lt hglt) (fun q e => by injection e with e; omega)) (Nat.le_refl _)) hL.len hp
  have HTK := Lib.hid htk1
  have HIF := Lib.hid hnif
  clear htk1 hnif
  go_cut [6] from 6 to 45 (fun sv W => ∃ (x : Ex) (i' top m : Nat) (Ax : Option Addr) (cx : Nat), sv = .int .i64 (top : Int) ∧ top ≤ 8 ∧ Hid (LoopOk L f' i' least x top R) ∧ i' < L.length ∧ IsPs W g A c L i' ∧ Blk W w.heap.size 28 #[.int .i64 0, .int .i64 0, .int .i64 0, .string ⟨#[]⟩, .string ⟨#[]⟩, .slice none 0 0] ∧ Blk W (w.heap.size + 1) 28 #[.int .i64 x.op, .int .i64 x.v.kind, .int .i64 x.v.n, .string x.v.s, .string x.s, .slice Ax x.l.length cx] ∧ IsEx m (DX (w.heap.size + 1) W) W (.agg #[.int .i64 x.op, .int .i64 x.v.kind, .int .i64 x.v.n, .string x.v.s, .string x.s, .slice Ax x.l.length cx]) x ∧ w.grownBy W (some g) ∧ w.heap.size + 1 < W.heap.size)
  case first =>
    go_upto_region 4 with fail
    go_cut [14] from 14 to 20 (fun v W => v = .bool false ∧ IsPs W g A c L i ∧ w1.grownBy W (some g))
    case first =>
      by_cases hl1 : least ≤ 1
      · have d1 : (least : Int) ≤ 1 := by omega
        have hq : isB L i kIf = false := by
          cases e : isB L i kIf with
          | false => rfl
          | true => exact absurd ⟨hl1, e⟩ HIF.out
        have ht := HTK.out kIf w1 hg1 h1
        rw [hq] at ht
        unfold kIf at ht
        have HT := Lib.hid ht
        clear ht hq
        go_wp2_with fail
        refine HT.out.mono ?_
        rintro e w2 ⟨rfl, h2, hg2⟩
        go_wp2_with fail
        go_meet
        exact ⟨rfl, h2, hg2⟩
      · have d1 : ¬ (least : Int) ≤ 1 := by omega
        go_wp2_with fail
        go_meet
        exact ⟨rfl, h1, grown_of_below (Below.refl _ _) _⟩
    case rest =>
      obtain ⟨rfl, h2, hg12⟩ := hcut
      have hR2 := hR1.grown hg12 (fun e => by injection e with e; omega)
      have hX2 := hX1.grown hg12 (fun e => by injection e with e; omega)
      have hg2 := lexGrownT hg1 hg12
      have hsz2 := Nat.le_trans hsz1 hg12.size
      clear hR1 hX1 hg1 hg12 h1 hsz1 HIF
      obtain ⟨w2, hwc⟩ : ∃ w2, w2 = wc := ⟨_, rfl⟩
      subst hwc
      obtain ⟨qn, hqn⟩ : ∃ qn, (decide (least ≤ 4) && isB L i kNot) = qn := ⟨_, rfl⟩
      have HQN := Lib.hid hqn
      clear hqn
      go_upto_region 10 with fail
      go_cut [35] from 35 to 41 (fun v W => v = .bool qn ∧ IsPs W g A c L (if qn then i + 1 else i) ∧ w2.grownBy W (some g))
      case first =>
        by_cases hl1 : least ≤ 4
        · have d1 : (least : Int) ≤ 4 := by omega
          have hq : isB L i kNot = qn := by rw [← HQN.out, decide_eq_true hl1]; rfl
          have ht := HTK.out kNot w2 hg2 h2
          rw [hq] at ht
          unfold kNot at ht
          have HT := Lib.hid ht
          clear ht hq
          go_wp2_with fail
          refine HT.out.mono ?_
          rintro e w3 ⟨rfl, h3, hg3⟩
          go_wp2_with fail
          go_meet
          exact ⟨rfl, h3, hg3⟩
        · have d1 : ¬ (least : Int) ≤ 4 := by omega
          have hq : qn = false := by rw [← HQN.out, decide_eq_false hl1]; rfl
          subst hq
          go_wp2_with fail
          go_meet
          exact ⟨rfl, h2, grown_of_below (Below.refl _ _) _⟩
      case rest =>
        obtain ⟨rfl, h3, hg23⟩ := hcut
        obtain ⟨w3, hwc⟩ : ∃ w3, w3 = wc := ⟨_, rfl⟩
        subst hwc
        have hR3 := hR2.grown hg23 (fun e => by injection e with e; omega)
        have hX3 := hX2.grown hg23 (fun e => by injection e with e; omega)
        have hg3 := lexGrownT hg2 hg23
        have hsz3 := Nat.le_trans hsz2 hg23.size
        clear hR2 hX2 hg2 hg23 h2 hsz2
        have hl3 := Sl.below hl RTok.kept (below_of_grown hg3 (Nat.le_of_lt hglt) (fun q e => by injection e with e; omega)) (Nat.le_refl _)
        cases qn
        · have hcs : ¬ (least ≤ 4 ∧ isB L i kNot = true) := by
            rintro ⟨a, b⟩
            have := HQN.out
            rw [decide_eq_true a, b] at this
            cases this
          have hc2 := HCS.out.resolve_left (fun h => hcs ⟨h.1, h.2.1⟩)
          obtain ⟨_, x, i', hat, hlp⟩ := hc2
          have hca := HAI.out f' (by omega) g A c i (x, i') (w.heap.size + 1) w3 (by omega) hsz3 hl3 h3 hi hat
          have HCA := Lib.hid hca
          have HLP := Lib.hid hlp
          clear hcs hca hat hlp hl3
          go_wp2_with fail
          refine HCA.out.mono ?_
          rintro e w4 ⟨m, xv, rfl, hx4, h4, hi4, hg34⟩
          have hR4 := hR3.grown hg34 (fun e => by injection e with e; omega)
          have hX4 := hX3.grown hg34 (fun e => by injection e with e; omega)
          have hg4 := lexGrownT hg3 hg34
          have hsz4 := Nat.le_trans hsz3 hg34.size
          obtain ⟨lv, rfl, _, Ax, cx, rfl⟩ := hx4.cells
          dsimp only at h4 hi4 hx4
          clear hR3 hX3 hg3 hg34 h3 hsz3 HCA
          obtain ⟨r0, r1, r2, r3, r4, r5⟩ := hX4.c6
          have f0 := hX4.frozen 0
          have f1 := hX4.frozen 1
          have f2 := hX4.frozen 2
          have f3 := hX4.frozen 3
          have f4 := hX4.frozen 4
          have f5 := hX4.frozen 5
          go_wp2_with fail
          go_meet
          exact ⟨x, i', 8, m, Ax, cx, rfl, by omega, HLP, hi4, Blk.far6 h4 (by omega) (.int .i64 x.op) (.int .i64 x.v.kind) (.int .i64 x.v.n) (.string x.v.s) (.string x.s) (.slice Ax x.l.length cx), Blk.far6 hR4 (by omega) (.int .i64 x.op) (.int .i64 x.v.kind) (.int .i64 x.v.n) (.string x.v.s) (.string x.s) (.slice Ax x.l.length cx), hX4.set6' (.int .i64 x.op) (.int .i64 x.v.kind) (.int .i64 x.v.n) (.string x.v.s) (.string x.s) (.slice Ax x.l.length cx), hx4.far6X (Nat.le_refl _) (.int .i64 x.op) (.int .i64 x.v.kind) (.int .i64 x.v.n) (.string x.v.s) (.string x.s) (.slice Ax x.l.length cx), grown6' hg4 (Nat.le_succ _) (.int .i64 x.op) (.int .i64 x.v.kind) (.int .i64 x.v.n) (.string x.v.s) (.string x.s) (.slice Ax x.l.length cx), by simp only [World.size_setCell]; exact hsz4⟩
        · have hcs : least ≤ 4 ∧ isB L i kNot = true := by
            have := HQN.out
            rw [Bool.and_eq_true, decide_eq_true_eq] at this
            exact this
          have hc2 := HCS.out.resolve_right (fun h => h.1 hcs)
          obtain ⟨_, _, y, i', hex, hlp⟩ := hc2
          have hca := HXI.out f' (by omega) g A c (i + 1) 4 (y, i') (w.heap.size + 1) w3 (by omega) hsz3 hl3 h3 (hL.next hcs.2) (by omega) hex
          have HCA := Lib.hid hca
          have HLP := Lib.hid hlp
          clear hcs hca hex hlp hl3
          go_wp2_with fail
          refine HCA.out.mono ?_
          rintro e w4 ⟨m, yv, rfl, hy4, h4, hi4, hg34⟩
          have hR4 := hR3.grown hg34 (fun e => by injection e with e; omega)
          have hX4 := hX3.grown hg34 (fun e => by injection e with e; omega)
          have hg4 := lexGrownT hg3 hg34
          have hsz4 := Nat.le_trans hsz3 hg34.size
          obtain ⟨lv, rfl, _, Ay, cy, rfl⟩ := hy4.cells
          dsimp only at h4 hi4 hy4
          clear hR3 hX3 hg3 hg34 h3 hsz3 HCA
          have hb5 := bone w4 (.cells #[.int .i64 y.op, .int .i64 y.v.kind, .int .i64 y.v.n, .string y.v.s, .string y.s, .slice Ay y.l.length cy] 28)
          have hX5 := hX4.now hb5
          have hrow5 := World.ownsRow_lit (base := w4.heap.size) (e := 28) (size := 6) w4 #[.int .i64 y.op, .int .i64 y.v.kind, .int .i64 y.v.n, .string y.v.s, .string y.s, .slice Ay y.l.length cy] 1 (Nat.le_refl _) (by unfold maxLen; omega) rfl
          have hy5 := hy4.grownX (show g ≤ w.heap.size + 1 by omega) (grown_of_below hb5 (some g))
          have h5 := IsPs.now h4 hb5
          have hR5 := hR4.now hb5
          have hg5 := lexGrownT hg4 (grown_of_below hb5 (some g))
          have hsz5 := Nat.le_trans hsz4 hb5.size
          have hsl5 := row1_ex hrow5 hy5 hsz4
          obtain ⟨r0, r1, r2, r3, r4, r5⟩ := hX5.c6
          have f0 := hX5.frozen 0
          have f1 := hX5.frozen 1
          have f2 := hX5.frozen 2
          have f3 := hX5.frozen 3
          have f4 := hX5.frozen 4
          have f5 := hX5.frozen 5
          go_wp2_with fail
          go_meet
          exact ⟨nodeB 3 [y], i', 4, m + 1, _, _, rfl, by omega, HLP, hi4, Blk.far6 h5 (by omega) _ _ _ _ _ _, Blk.far6 hR5 (by omega) _ _ _ _ _ _, hX5.set6' _ _ _ _ _ _, (isEx_node 3 hsl5 (by omega)).far6X (Nat.le_refl _) _ _ _ _ _ _, grown6' hg5 (Nat.le_succ _) _ _ _ _ _ _, by simp only [World.size_setCell]; exact hsz5⟩
  case rest =>
    obtain ⟨xs, is, ts, ms, As, cs, rfl, hts, HLS, his, hPs, hRs, hXs, hEs, hgs, hszs⟩ := hcut
    clear HCS HTK HIF HAI hR1 hX1 hg1 h1 hsz1
    go_wp2_with fail
    go_loopg [6] f' (fun gg sv W => ∃ (f1 : Nat) (x : Ex) (i' top m : Nat) (Ax : Option Addr) (cx : Nat), f1 ≤ gg ∧ f1 ≤ f' ∧ sv = .int .i64 (top : Int) ∧ top ≤ 8 ∧ Hid (LoopOk L f1 i' least x top R) ∧ i' < L.length ∧ IsPs W g A c L i' ∧ Blk W w.heap.size 28 #[.int .i64 0, .int .i64 0, .int .i64 0, .string ⟨#[]⟩, .string ⟨#[]⟩, .slice none 0 0] ∧ Blk W (w.heap.size + 1) 28 #[.int .i64 x.op, .int .i64 x.v.kind, .int .i64 x.v.n, .string x.v.s, .string x.s, .slice Ax x.l.length cx] ∧ IsEx m (DX (w.heap.size + 1) W) W (.agg #[.int .i64 x.op, .int .i64 x.v.kind, .int .i64 x.v.n, .string x.v.s, .string x.s, .slice Ax x.l.length cx]) x ∧ w.grownBy W (some g) ∧ w.heap.size + 1 < W.heap.size)
    case atStart => exact ⟨f', xs, is, ts, ms, As, cs, Nat.le_refl _, Nat.le_refl _, rfl, hts, HLS, his, hPs, hRs, hXs, hEs, hgs, hszs⟩
    case round =>
      obtain ⟨f1, x, i', top, m, Ax, cx, hf1g, hf1, rfl, htop, HL, hi1, h1, hR1, hX1, hx1, hg1, hsz1⟩ := hrel
      clear hPs hRs hXs hEs hgs hszs HLS
      obtain ⟨f2, rfl, hcase⟩ := loopB_step HL.out
      have hop := opB_lt L i'
      have hlv := levB_le (opB L i')
      have hbase := hL.len
      have hl1 := Sl.below hl RTok.kept (below_of_grown hg1 (Nat.le_of_lt hglt) (fun q e => by injection e with e; omega)) (Nat.le_refl _)
      have hglt1 : g < wr.heap.size := by omega
      have hoc := operator_any g A c L i' wr hi1 g (Nat.le_of_lt hglt1) hl1 h1
      have hlc := fun W => level_any (opB L i') W hop
      have hnext : opB L i' ≠ 0 → i' + 1 < L.length := fun hne => by
        obtain ⟨s, hs⟩ := opB_is hne
        exact hL.next hs
      have hstop : stopB L i' least top = (decide (opB L i' = 0) || (decide (levB (opB L i') < least) || decide (top < askB (opB L i')))) := by
        unfold stopB
        simp
      have hask : askB (opB L i') = if levB (opB L i') = 5 then 6 else levB (opB L i') := rfl
      obtain ⟨op, hope⟩ : ∃ op, opB L i' = op := ⟨_, rfl⟩
      obtain ⟨lv, hlve⟩ : ∃ lv, levB (opB L i') = lv := ⟨_, rfl⟩
      obtain ⟨ak, hake⟩ : ∃ ak, askB (opB L i') = ak := ⟨_, rfl⟩
      obtain ⟨st, hste⟩ : ∃ st, stopB L i' least top = st := ⟨_, rfl⟩
      rw [hake, hlve] at hask
      rw [hste, hake, hlve] at hstop
      rw [hlve] at hlc hlv hcase
      rw [hste] at hcase
      rw [hope] at hoc hlc hstop hnext hop hcase
      have HOC := Lib.hid hoc
      have HLC := Lib.hid hlc
      have HCS := Lib.hid hcase
      have HST := Lib.hid hstop
      have HAK := Lib.hid hask
      have HNX := Lib.hid hnext
      have HLV : Hid (levB op = lv) := by show _ = _; rw [← hope]; exact hlve
      clear hoc hlc hcase hstop hask hope hlve hake hste hl1 hnext HL
      obtain ⟨p0, p1, p2⟩ := (show Blk wr g 114 #[.slice A L.length c, .int .i64 (i' : Int), .bool false] from h1).c3
      go_wp2_with fail
      refine HOC.out.mono ?_
      rintro e w2 ⟨rfl, hb2⟩
      have h2 := IsPs.now h1 hb2
      have hR2 := hR1.now hb2
      have hX2 := hX1.now hb2
      have hx2 := hx1.grownX (show g ≤ w.heap.size + 1 by omega) (grown_of_below hb2 (some g))
      have hg2 := lexGrownT hg1 (grown_of_below hb2 (some g))
      have hsz2 := Nat.le_trans hsz1 hb2.size
      clear HOC p0 p1 p2 h1 hR1 hX1 hx1 hg1 hsz1 hb2
      go_wp2_with fail
      refine (HLC.out w2).mono ?_
      rintro e w3 ⟨rfl, rfl⟩
      clear HLC
      go_upto_if 57 with fail
      go_cut [11] from 46 to 94 (fun v W => v = .int .i64 (ak : Int) ∧ w2 = W)
      case first =>
        by_cases h5 : lv = 5
        · have d5 : ((lv : Int) == 5) = true := by rw [h5]; rfl
          have HA2 : Hid (ak = 6) := by show _ = _; rw [HAK.out, if_pos h5]
          clear h5
          go_wp2_with fail
          go_meet
          exact ⟨by rw [HA2.out]; rfl, rfl⟩
        · have d5 : ((lv : Int) == 5) = false := by simp; omega
          have HA2 : Hid (ak = lv) := by show _ = _; rw [HAK.out, if_neg h5]
          clear h5
          go_wp2_with fail
          go_meet
          exact ⟨by rw [HA2.out], rfl⟩
      case rest =>
        obtain ⟨rfl, rfl⟩ := hcut
        go_upto_region 18 with fail
        go_cut [69] from 46 to 94 (fun v W => v = .bool st ∧ w2 = W)
        case first =>
          by_cases a1 : op = 0
          · have d1 : ((op : Int) == 0) = true := by rw [a1]; rfl
            have HA2 : Hid (st = true) := by show _ = _; rw [HST.out, decide_eq_true a1]; rfl
            clear a1
            go_wp2_with fail
            go_meet
            exact ⟨by rw [HA2.out], rfl⟩
          · have d1 : ((op : Int) == 0) = false := by simp; omega
            by_cases a2 : lv < least
            · have d2 : (lv : Int) < (least : Int) := by omega
              have HA2 : Hid (st = true) := by show _ = _; rw [HST.out, decide_eq_true a2]; simp
              clear a1 a2
              go_wp2_with fail
              go_meet
              exact ⟨by rw [HA2.out], rfl⟩
            · have d2 : ¬ (lv : Int) < (least : Int) := by omega
              have HA2 : Hid (st = decide (top < ak)) := by show _ = _; rw [HST.out, decide_eq_false a1, decide_eq_false a2]; rfl
              clear a1 a2
              by_cases a3 : top < ak
              · have d3 : (top : Int) < (ak : Int) := by omega
                go_wp2_with fail
                go_meet
                exact ⟨by rw [HA2.out, decide_eq_true a3], rfl⟩
              · have d3 : ¬ (top : Int) < (ak : Int) := by omega
                go_wp2_with fail
                go_meet
                exact ⟨by rw [HA2.out, decide_eq_false a3], rfl⟩
        case rest =>
          obtain ⟨rfl, rfl⟩ := hcut
          clear HAK
          cases st
          · have hcs : (op = 13 ∧ isB L (i' + 1) kLeft = true ∧ ∃ l j, pSetB L f2 (i' + 1 + 1) [x] = some (l, j) ∧ LoopOk L f2 j least (nodeB 13 l) 5 R) ∨ (op ≠ 13 ∧ ∃ y j, exB L f2 (i' + 1) (lv + 1) = some (y, j) ∧ LoopOk L f2 j least (nodeB op [x, y]) lv R) := by
              rcases HCS.out with ⟨h, _⟩ | ⟨_, h⟩ | ⟨_, h⟩
              · cases h
              · exact .inl h
              · exact .inr h
            have hi2 : i' + 1 < L.length := HNX.out (fun e => by
              have := HST.out
              rw [decide_eq_true e] at this
              cases this)
            have HC2 := Lib.hid hcs
            clear hcs HCS HST HNX
            obtain ⟨c0, c1, c2⟩ := (show Blk w2 g 114 #[.slice A L.length c, .int .i64 (i' : Int), .bool false] from h2).c3
            have p1 := Blk.frozen h2 1
            have e1 : ((i' + 1 : Nat) : Int) = (i' : Int) + 1 := by omega
            go_upto_block 3 with fail
            have h3 : IsPs (w2.setCell ⟨g, 1, none⟩ (.int .i64 ((i' : Int) + 1))) g A c L (i' + 1) := by
              unfold IsPs
              rw [e1]
              exact h2.set_ 1 _
            have hR3 := hR2.far (p := ⟨g, 1, none⟩) (show w.heap.size ≠ g by omega) (.int .i64 ((i' : Int) + 1))
            have hX3 := hX2.far (p := ⟨g, 1, none⟩) (show w.heap.size + 1 ≠ g by omega) (.int .i64 ((i' : Int) + 1))
            have hx3 := hx2.farX (p := ⟨g, 1, none⟩) (show g ≤ w.heap.size + 1 by omega) (.int .i64 ((i' : Int) + 1))
            have hg3 := lexGrownT hg2 (lexGrownS w2 g 1 (.int .i64 ((i' : Int) + 1)))
            have hsz3 : w.heap.size + 1 < (w2.setCell ⟨g, 1, none⟩ (.int .i64 ((i' : Int) + 1))).heap.size := by rw [World.size_setCell]; exact hsz2
            generalize hw3 : w2.setCell ⟨g, 1, none⟩ (.int .i64 ((i' : Int) + 1)) = w3 at *
            clear hw3 c0 c1 c2 p1 h2 hR2 hX2 hx2 hg2 hsz2 e1
            have hl3 := Sl.below hl RTok.kept (below_of_grown hg3 (Nat.le_of_lt hglt) (fun q e => by injection e with e; omega)) (Nat.le_refl _)
            go_cut [] from 46 to 94 (fun W => Hid (∃ (z : Ex) (j m : Nat) (Az : Option Addr) (cz : Nat), LoopOk L f2 j least z lv R ∧ j < L.length ∧ IsPs W g A c L j ∧ Blk W w.heap.size 28 #[.int .i64 0, .int .i64 0, .int .i64 0, .string ⟨#[]⟩, .string ⟨#[]⟩, .slice none 0 0] ∧ Blk W (w.heap.size + 1) 28 #[.int .i64 z.op, .int .i64 z.v.kind, .int .i64 z.v.n, .string z.v.s, .string z.s, .slice Az z.l.length cz] ∧ IsEx m (DX (w.heap.size + 1) W) W (.agg #[.int .i64 z.op, .int .i64 z.v.kind, .int .i64 z.v.n, .string z.v.s, .string z.s, .slice Az z.l.length cz]) z ∧ w.grownBy W (some g) ∧ w.heap.size + 1 < W.heap.size))
            case first =>
              obtain ⟨q13, d13⟩ : ∃ q, ((op : Int) == 13) = q := ⟨_, rfl⟩
              have HQ13 := Lib.hid d13
              go_upto_region 22 with fail
              go_cut [88] from 46 to 94 (fun v W => v = .bool q13 ∧ w3 = W)
              case first =>
                go_wp2_with fail
                go_meet
                exact ⟨rfl, rfl⟩
              obtain ⟨rfl, rfl⟩ := hcut
              clear d13
              cases q13
              rotate_left
              · have h13 : op = 13 := by have := HQ13.out; simp at this; omega
                have hc3 := HC2.out.resolve_right (fun h => h.1 h13)
                obtain ⟨-, hkl, l, j, hps, hlp⟩ := hc3
                have hsc := set_any (w.heap.size + 1) g (by omega) A c L hL f2 (i' + 1) x m _ (l, j) w3 (by omega) hl3 h3 hsz3 hx3 hkl hps
                have HSC := Lib.hid hsc
                have HLP := Lib.hid hlp
                have HOP := Lib.hid h13
                clear hkl hps hlp hsc HC2 hl3 h13
                obtain ⟨r0, r1, r2, r3, r4, r5⟩ := hX3.c6
                go_wp2_with fail
                refine HSC.out.mono ?_
                rintro e w4 ⟨m4, yv, rfl, hy4, h4, hj4, hg34⟩
                have hR4 := hR3.grown hg34 (fun e => by injection e with e; omega)
                have hX4 := hX3.grown hg34 (fun e => by injection e with e; omega)
                have hg4 := lexGrownT hg3 hg34
                have hsz4 := Nat.le_trans hsz3 hg34.size
                obtain ⟨lv', rfl, _, Ay, cy, rfl⟩ := hy4.cells
                dsimp only at h4 hj4 hy4
                have HV5 : Hid (lv = 5) := by show _ = _; rw [← HLV.out, HOP.out]; rfl
                clear hR3 hX3 hg3 hg34 h3 hsz3 HSC r0 r1 r2 r3 r4 r5 hx3
                obtain ⟨r0, r1, r2, r3, r4, r5⟩ := hX4.c6
                have fz0 := hX4.frozen 0
                have fz1 := hX4.frozen 1
                have fz2 := hX4.frozen 2
                have fz3 := hX4.frozen 3
                have fz4 := hX4.frozen 4
                have fz5 := hX4.frozen 5
                go_wp2_with fail
                go_meet
                exact ⟨nodeB 13 l, j, m4, _, _, (by show LoopOk _ _ _ _ _ _ _; rw [HV5.out]; exact HLP.out), hj4, Blk.far6 h4 (by omega) _ _ _ _ _ _, Blk.far6 hR4 (by omega) _ _ _ _ _ _, hX4.set6' _ _ _ _ _ _, hy4.far6X (Nat.le_refl _) _ _ _ _ _ _, grown6' hg4 (Nat.le_succ _) _ _ _ _ _ _, by simp only [World.size_setCell]; exact hsz4⟩
              · have h13 : op ≠ 13 := by have := HQ13.out; simp at this; omega
                obtain ⟨-, y, j, hex, hlp⟩ := HC2.out.resolve_left (fun h => h13 h.1)
                have elv : ((lv + 1 : Nat) : Int) = (lv : Int) + 1 := by omega
                have hdr : Below w3.heap.size w3 w3.drew := (Below.refl _ _).drew
                have hca := fun (W : World) (hg : w.grownBy W (some g)) (hs : w.heap.size + 1 < W.heap.size) (hp : IsPs W g A c L (i' + 1)) => HXI.out f2 (by omega) g A c (i' + 1) (lv + 1) (y, j) (w.heap.size + 1) W (by omega) hs (Sl.below hl RTok.kept (below_of_grown hg (Nat.le_of_lt hglt) (fun q e => by injection e with e; omega)) (Nat.le_refl _)) hp hi2 (by omega) hex
                rw [elv] at hca
                have HCA := Lib.hid hca
                have HLP := Lib.hid hlp
                clear hex hlp hca HC2 hl3 h13 elv
                obtain ⟨r0, r1, r2, r3, r4, r5⟩ := hX3.c6
                go_upto_region 21 with fail
                have hX3d := hX3.now hdr
                have hR3d := hR3.now hdr
                have hx3d := hx3.grownX (show g ≤ w.heap.size + 1 by omega) (grown_of_below hdr (some g))
                have hg3d := lexGrownT hg3 (grown_of_below hdr (some g))
                have hsz3d : w.heap.size + 1 < w3.drew.heap.size := hsz3
                rename_i J1 K1 hJ hK
                refine wp_region_makeG (B := B21 g A c L j) B21.refl B21.trans (by kernel_rfl) 8 (by kernel_rfl) (by kernel_rfl) (by kernel_rfl) (by kernel_rfl) (r21F g A c L (w.heap.size + 1) op lv (.agg #[.int .i64 x.op, .int .i64 x.v.kind, .int .i64 x.v.n, .string x.v.s, .string x.s, .slice Ax x.l.length cx]) x y j) 5 (fun W => IsPs W g A c L (i' + 1)) (IsPs.now h3 hdr) (r21F_keep (by omega)) ?hall ?hstep ?hlast
                case hall => exact hall_of (by kernel_rfl)
                case hstep =>
                  refine ⟨fun a W hk hbW hU hd => ?_, ?_⟩
                  · show Oper.wp _ _ a W _ _
                    have k1 : a.eval (.tmp 9) = .int .i64 (op : Int) := hk.same (s := 9) (by kernel_rfl)
                    exact wpM_move _ _ rfl k1 ⟨_, rfl, B21.refl _, fun _ h => h, rfl⟩
                  refine ⟨fun a W hk hbW hU hd => ?_, ?_⟩
                  · show Oper.wp _ _ a W _ _
                    have k1 : a.eval (.tmp 5) = .pointer (some ⟨w.heap.size + 1, 0, none⟩) := hk.same (s := 5) (by kernel_rfl)
                    obtain ⟨q0, q1, q2, q3, q4, q5⟩ := (hX3d.grown hbW.1 (fun e => by injection e with e; omega)).c6
                    exact wpM_load _ _ _ (.agg #[.int .i64 x.op, .int .i64 x.v.kind, .int .i64 x.v.n, .string x.v.s, .string x.s, .slice Ax x.l.length cx]) rfl k1 (by simp [go_sem, q0, q1, q2, q3, q4, q5]) ⟨_, rfl, B21.refl _, fun _ h => h, rfl⟩
                  refine ⟨fun a W hk hbW hU hd => ?_, ?_⟩
                  · show Oper.wp _ _ a W _ _
                    have k1 : a.eval (.tmp 0) = .pointer (some ⟨g, 0, none⟩) := hk.same (s := 0) (by kernel_rfl)
                    exact wpM_move _ _ rfl k1 ⟨_, rfl, B21.refl _, fun _ h => h, rfl⟩
                  refine ⟨fun a W hk hbW hU hd => ?_, ?_⟩
                  · show Oper.wp _ _ a W _ _
                    have k1 : a.eval (.tmp 10) = .int .i64 (lv : Int) := hk.same (s := 10) (by kernel_rfl)
                    exact wpM_move _ _ rfl k1 ⟨_, rfl, B21.refl _, fun _ h => h, rfl⟩
                  refine ⟨fun a W hk hbW hU hd => ?_, ?_⟩
                  · show Oper.wp _ _ a W _ _
                    have e0 : a.eval (.tmp 83) = .int .i64 (lv : Int) := (show r21F g A c L (w.heap.size + 1) op lv (.agg #[.int .i64 x.op, .int .i64 x.v.kind, .int .i64 x.v.n, .string x.v.s, .string x.s, .slice Ax x.l.length cx]) x y j 3 (Act.slot a 83) W from hd 3 (by kernel_rfl))
                    refine wpM_run (.int .i64 ((lv : Int) + 1)) W ?_ ⟨_, rfl, B21.refl _, fun _ h => h, rfl⟩
                    simp only [execOp, e0]
                    simp [go_sem]
                    exact IntWalk.i64_in _ (by omega)
                  refine ⟨fun a W hk hbW hU hd => ?_, ?_⟩
                  · show Oper.wp _ _ a W _ _
                    have e0 : a.eval (.tmp 82) = .pointer (some ⟨g, 0, none⟩) := (show r21F g A c L (w.heap.size + 1) op lv (.agg #[.int .i64 x.op, .int .i64 x.v.kind, .int .i64 x.v.n, .string x.v.s, .string x.s, .slice Ax x.l.length cx]) x y j 2 (Act.slot a 82) W from hd 2 (by kernel_rfl))
                    have e1 : a.eval (.tmp 84) = .int .i64 ((lv : Int) + 1) := (show r21F g A c L (w.heap.size + 1) op lv (.agg #[.int .i64 x.op, .int .i64 x.v.kind, .int .i64 x.v.n, .string x.v.s, .string x.s, .slice Ax x.l.length cx]) x y j 4 (Act.slot a 84) W from hd 4 (by kernel_rfl))
                    have hsW := Nat.le_trans hsz3d hbW.1.size
                    refine wpM_callEx _ _ #[.pointer (some ⟨g, 0, none⟩), .int .i64 ((lv : Int) + 1)] _ rfl rfl (by simp [e0, e1]) ?_
                    refine ((HCA.out W (lexGrownT hg3d hbW.1) hsW (hU rfl))).mono ?_
                    rintro e w4 ⟨m4, yv, rfl, hy4, h4, hj4, hg34⟩
                    exact ⟨_, rfl, _, rfl, ⟨hg34, fun _ => h4⟩, fun h => absurd rfl h, ⟨h4, hj4⟩, m4, hy4⟩
                  refine ⟨fun a W hk hbW hU hd => ?_, ?_⟩
                  · show Oper.wp _ _ a W _ _
                    have e0 : a.eval (.tmp 81) = .agg #[.int .i64 x.op, .int .i64 x.v.kind, .int .i64 x.v.n, .string x.v.s, .string x.s, .slice Ax x.l.length cx] := (show r21F g A c L (w.heap.size + 1) op lv (.agg #[.int .i64 x.op, .int .i64 x.v.kind, .int .i64 x.v.n, .string x.v.s, .string x.s, .slice Ax x.l.length cx]) x y j 1 (Act.slot a 81) W from hd 1 (by kernel_rfl))
                    obtain ⟨hpW, m4, hy4⟩ := (show r21F g A c L (w.heap.size + 1) op lv (.agg #[.int .i64 x.op, .int .i64 x.v.kind, .int .i64 x.v.n, .string x.v.s, .string x.s, .slice Ax x.l.length cx]) x y j 5 (Act.slot a 85) W from hd 5 (by kernel_rfl))
                    have hsW := Nat.le_trans hsz3d hbW.1.size
                    obtain ⟨lv', e1, _, Ay, cy, rfl⟩ := hy4.cells
                    have e1 : a.eval (.tmp 85) = .agg #[.int .i64 y.op, .int .i64 y.v.kind, .int .i64 y.v.n, .string y.v.s, .string y.s, .slice Ay y.l.length cy] := e1
                    rw [show Act.slot a 85 = .agg #[.int .i64 y.op, .int .i64 y.v.kind, .int .i64 y.v.n, .string y.v.s, .string y.s, .slice Ay y.l.length cy] from e1] at hy4
                    have hb5 := bone W (.cells #[.int .i64 x.op, .int .i64 x.v.kind, .int .i64 x.v.n, .string x.v.s, .string x.s, .slice Ax x.l.length cx, .int .i64 y.op, .int .i64 y.v.kind, .int .i64 y.v.n, .string y.v.s, .string y.s, .slice Ay y.l.length cy] 28)
                    refine wpM_slice _ _ _ _ _ #[(0, .agg #[.int .i64 x.op, .int .i64 x.v.kind, .int .i64 x.v.n, .string x.v.s, .string x.s, .slice Ax x.l.length cx]), (1, .agg #[.int .i64 y.op, .int .i64 y.v.kind, .int .i64 y.v.n, .string y.v.s, .string y.s, .slice Ay y.l.length cy])] rfl (by simp [e0, e1]) (bX2 _ _ _ _ _ _ _ _ _ _ _ _ _ _ _ _ W) ⟨_, rfl, B21.below hb5, fun _ h => IsPs.now h hb5, ⟨IsPs.now hpW.1 hb5, hpW.2⟩, max m m4 + 1, W.heap.size, rfl, ?_⟩
                    have hrow5 := World.ownsRow_lit (base := W.heap.size) (e := 28) (size := 6) W #[.int .i64 x.op, .int .i64 x.v.kind, .int .i64 x.v.n, .string x.v.s, .string x.s, .slice Ax x.l.length cx, .int .i64 y.op, .int .i64 y.v.kind, .int .i64 y.v.n, .string y.v.s, .string y.s, .slice Ay y.l.length cy] 2 (Nat.le_refl _) (by unfold maxLen; omega) rfl
                    have hx4 := hx3d.grownX (show g ≤ w.heap.size + 1 by omega) hbW.1
                    exact row2_ex hrow5 (hx4.grownX (show g ≤ w.heap.size + 1 by omega) (grown_of_below hb5 (some g))) (hy4.grownX (show g ≤ w.heap.size + 1 by omega) (grown_of_below hb5 (some g))) hsW
                  refine ⟨fun a W hk hbW hU hd => ?_, trivial⟩
                  · show Oper.wp _ _ a W _ _
                    have e0 : a.eval (.tmp 80) = .int .i64 (op : Int) := (show r21F g A c L (w.heap.size + 1) op lv (.agg #[.int .i64 x.op, .int .i64 x.v.kind, .int .i64 x.v.n, .string x.v.s, .string x.s, .slice Ax x.l.length cx]) x y j 0 (Act.slot a 80) W from hd 0 (by kernel_rfl))
                    obtain ⟨hpW, m4, b, e1, hsl⟩ := (show r21F g A c L (w.heap.size + 1) op lv (.agg #[.int .i64 x.op, .int .i64 x.v.kind, .int .i64 x.v.n, .string x.v.s, .string x.s, .slice Ax x.l.length cx]) x y j 6 (Act.slot a 86) W from hd 6 (by kernel_rfl))
                    have e1 : a.eval (.tmp 86) = .slice (some ⟨b, 0, none⟩) 2 2 := e1
                    rw [show Act.slot a 86 = .slice (some ⟨b, 0, none⟩) 2 2 from e1] at hsl
                    exact wpM_build _ _ _ #[(0, .int .i64 (op : Int)), (3, .slice (some ⟨b, 0, none⟩) 2 2)] rfl (by simp [e0, e1]) (bE2 _ _ _ _ W) ⟨_, rfl, B21.refl _, fun _ h => h, hpW, m4, b, rfl, isEx_node op hsl (by omega)⟩
                case hlast =>
                  intro o ho a W hk hbW hF
                  injection ho with ho
                  subst ho
                  obtain ⟨hpW, m4, b, e1, hx5⟩ := (show r21F g A c L (w.heap.size + 1) op lv (.agg #[.int .i64 x.op, .int .i64 x.v.kind, .int .i64 x.v.n, .string x.v.s, .string x.s, .slice Ax x.l.length cx]) x y j 7 (Act.slot a 87) W from hF 7 (by decide))
                  have e1 : a.eval (.tmp 87) = .agg #[.int .i64 (op : Int), .int .i64 0, .int .i64 0, .string ⟨#[]⟩, .string ⟨#[]⟩, .slice (some ⟨b, 0, none⟩) 2 2] := e1
                  rw [show Act.slot a 87 = .agg #[.int .i64 (op : Int), .int .i64 0, .int .i64 0, .string ⟨#[]⟩, .string ⟨#[]⟩, .slice (some ⟨b, 0, none⟩) 2 2] from e1] at hx5
                  have k1 : a.eval (.tmp 5) = .pointer (some ⟨w.heap.size + 1, 0, none⟩) := hk.same (s := 5) (by kernel_rfl)
                  have hXW := hX3d.grown hbW.1 (fun e => by injection e with e; omega)
                  have hRW := hR3d.grown hbW.1 (fun e => by injection e with e; omega)
                  have hgW := lexGrownT hg3d hbW.1
                  have hsW := Nat.le_trans hsz3d hbW.1.size
                  obtain ⟨q0, q1, q2, q3, q4, q5⟩ := hXW.c6
                  have fz0 := hXW.frozen 0
                  have fz1 := hXW.frozen 1
                  have fz2 := hXW.frozen 2
                  have fz3 := hXW.frozen 3
                  have fz4 := hXW.frozen 4
                  have fz5 := hXW.frozen 5
                  refine wpM_store _ _ _ _ _ ((((((W.setCell ⟨w.heap.size + 1, 0, none⟩ (.int .i64 (op : Int))).setCell ⟨w.heap.size + 1, 1, none⟩ (.int .i64 0)).setCell ⟨w.heap.size + 1, 2, none⟩ (.int .i64 0)).setCell ⟨w.heap.size + 1, 3, none⟩ (.string ⟨#[]⟩)).setCell ⟨w.heap.size + 1, 4, none⟩ (.string ⟨#[]⟩)).setCell ⟨w.heap.size + 1, 5, none⟩ (.slice (some ⟨b, 0, none⟩) 2 2)) () rfl k1 e1 (by simp [go_sem, q0, q1, q2, q3, q4, q5, fz0, fz1, fz2, fz3, fz4, fz5]) ⟨_, rfl, fun a'' hk'' hs => ?_⟩
                  have h6 := Blk.far6 hpW.1 (show g ≠ w.heap.size + 1 by omega) (.int .i64 (op : Int)) (.int .i64 0) (.int .i64 0) (.string ⟨#[]⟩) (.string ⟨#[]⟩) (.slice (some ⟨b, 0, none⟩) 2 2)
                  have hR6 := Blk.far6 hRW (show w.heap.size ≠ w.heap.size + 1 by omega) (.int .i64 (op : Int)) (.int .i64 0) (.int .i64 0) (.string ⟨#[]⟩) (.string ⟨#[]⟩) (.slice (some ⟨b, 0, none⟩) 2 2)
                  have hX6 := hXW.set6' (.int .i64 (op : Int)) (.int .i64 0) (.int .i64 0) (.string ⟨#[]⟩) (.string ⟨#[]⟩) (.slice (some ⟨b, 0, none⟩) 2 2)
                  have hx6 := hx5.far6X (Nat.le_refl _) (.int .i64 (op : Int)) (.int .i64 0) (.int .i64 0) (.string ⟨#[]⟩) (.string ⟨#[]⟩) (.slice (some ⟨b, 0, none⟩) 2 2)
                  have hg6 := grown6' hgW (Nat.le_succ _) (.int .i64 (op : Int)) (.int .i64 0) (.int .i64 0) (.string ⟨#[]⟩) (.string ⟨#[]⟩) (.slice (some ⟨b, 0, none⟩) 2 2)
                  clear hs fz0 fz1 fz2 fz3 fz4 fz5 q0 q1 q2 q3 q4 q5
                  have hl6 := hpW.2
                  show K1 a'' _
                  refine hK _ _ ?_
                  rw [hk''.form (by kernel_rfl)]
                  simp only [putsAll, Option.getD_some, Act.put, List.setIfInBounds_toArray, List.set_cons_zero, List.set_cons_succ]
                  go_meet
                  exact ⟨nodeB op [x, y], j, m4, _, _, HLP.out, hl6, h6, hR6, hX6, hx6, hg6, by simp only [World.size_setCell]; exact hsW⟩
            case rest =>
              obtain ⟨z, j, m5, Az, cz, HL5, hj5, h5, hR5, hX5, hx5, hg5, hsz5⟩ := hcut.out
              have HL5 := Lib.hid HL5
              clear hR3 hX3 hg3 h3 hsz3 hx3 hcut HC2
              go_wp2_with fail
              go_roundg f2
              case rel => exact ⟨f2, z, j, lv, m5, _, _, Nat.le_refl _, by omega, rfl, by omega, HL5, hj5, h5, hR5, hX5, hx5, hg5, hsz5⟩
              case measure => omega
          · have hRe : R = (x, i') := by
              rcases HCS.out with ⟨_, h⟩ | ⟨h, _⟩ | ⟨h, _⟩
              · exact h
              · cases h
              · cases h
            subst hRe
            obtain ⟨r0, r1, r2, r3, r4, r5⟩ := hR2.c6
            obtain ⟨x0, x1, x2, x3, x4, x5⟩ := hX2.c6
            have f0 := hR2.frozen 0
            have f1 := hR2.frozen 1
            have f2 := hR2.frozen 2
            have f3 := hR2.frozen 3
            have f4 := hR2.frozen 4
            have f5 := hR2.frozen 5
            go_wp2_with fail
            obtain ⟨s0, s1, s2, s3, s4, s5⟩ := (hR2.set6' (.int .i64 x.op) (.int .i64 x.v.kind) (.int .i64 x.v.n) (.string x.v.s) (.string x.s) (.slice Ax x.l.length cx)).c6
            refine bodyPost_ret (v := .agg #[.int .i64 x.op, .int .i64 x.v.kind, .int .i64 x.v.n, .string x.v.s, .string x.s, .slice Ax x.l.length cx]) (by simp [results, Tryz.results74, go_sem, s0, s1, s2, s3, s4, s5]) rfl ?_
            exact ⟨m, _, rfl, (hx2.far6X (Nat.le_succ _) (.int .i64 x.op) (.int .i64 x.v.kind) (.int .i64 x.v.n) (.string x.v.s) (.string x.s) (.slice Ax x.l.length cx)).lowX (by omega), Blk.far6 h2 (by omega) (.int .i64 x.op) (.int .i64 x.v.kind) (.int .i64 x.v.n) (.string x.v.s) (.string x.s) (.slice Ax x.l.length cx), hi1, grown6' hg2 (Nat.le_refl _) (.int .i64 x.op) (.int .i64 x.v.kind) (.int .i64 x.v.n) (.string x.v.s) (.string x.s) (.slice Ax x.l.length cx)⟩
end Go.Proofs.YtijmnenojbfdnaaGreatDoor

namespace Go.Proofs.YtijmnenojbfdnaaGreatDoor
open Go.RowKit
theorem expr_any (L : List Tok) (hL : TokOk L) (f : Nat) : f ≤ 1000 → ExprC L f := by
  induction f using Nat.strongRecOn with
  | ind f ih => exact fun hf => expr_of L hL f hf (fun f' h => ih f' h (by omega)) (fun f' h => atom_of L hL f' (fun f'' h' => ih f'' (by omega) (by omega)))
end Go.Proofs.YtijmnenojbfdnaaGreatDoor
