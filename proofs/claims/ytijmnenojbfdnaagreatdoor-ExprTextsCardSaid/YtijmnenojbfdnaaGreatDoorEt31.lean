/- Texts of this seat, merged. -/
import Derived.ProofKit
import Derived.Deep.Slices
import Derived.Deep.Fields
import Derived.Deep.Strs
import Derived.ChangeSame
import Derived.Lib.SmallJoins
import Derived.LaidMore
import Derived.OpenShut
import Derived.Stop.Joined
import Derived.Test.YtijmnenojbfdnaaGreatDoorRows
import Derived.Test.YtijmnenojbfdnaaGreatDoorTie
import Derived.Test.YtijmnenojbfdnaaGreatDoorCards
import Derived.SevenTiedAt
import Derived.LaidLaws
import Derived.Lib.LaidTab
import Derived.Test.YtijmnenojbfdnaaGreatDoorEt01
import Derived.Test.YtijmnenojbfdnaaGreatDoorEt02
import Derived.Test.YtijmnenojbfdnaaGreatDoorEt03
import Derived.Test.YtijmnenojbfdnaaGreatDoorEt04
import Derived.Test.YtijmnenojbfdnaaGreatDoorEt05
import Derived.Test.YtijmnenojbfdnaaGreatDoorEt06
import Derived.Test.YtijmnenojbfdnaaGreatDoorEt07
import Derived.Test.YtijmnenojbfdnaaGreatDoorEt08
import Derived.Test.YtijmnenojbfdnaaGreatDoorEt09
import Derived.Test.YtijmnenojbfdnaaGreatDoorEt10
import Derived.Test.YtijmnenojbfdnaaGreatDoorEt11
import Derived.Test.YtijmnenojbfdnaaGreatDoorEt12
import Derived.Test.YtijmnenojbfdnaaGreatDoorEt13
import Derived.Test.YtijmnenojbfdnaaGreatDoorEt14
import Derived.Test.YtijmnenojbfdnaaGreatDoorEt15
import Derived.Test.YtijmnenojbfdnaaGreatDoorEt16
import Derived.Test.YtijmnenojbfdnaaGreatDoorEt17
import Derived.Test.YtijmnenojbfdnaaGreatDoorEt18
import Derived.Test.YtijmnenojbfdnaaGreatDoorEt19
import Derived.Test.YtijmnenojbfdnaaGreatDoorEt20
import Derived.Test.YtijmnenojbfdnaaGreatDoorEt21
import Derived.Test.YtijmnenojbfdnaaGreatDoorEt22
import Derived.Test.YtijmnenojbfdnaaGreatDoorEt23
import Derived.Test.YtijmnenojbfdnaaGreatDoorEt24
import Derived.Test.YtijmnenojbfdnaaGreatDoorEt25
import Derived.Test.YtijmnenojbfdnaaGreatDoorEt26
import Derived.Test.YtijmnenojbfdnaaGreatDoorEt27
import Derived.Test.YtijmnenojbfdnaaGreatDoorEt28
import Derived.Test.YtijmnenojbfdnaaGreatDoorEt29
import Derived.Test.YtijmnenojbfdnaaGreatDoorEt30
set_option linter.unusedSimpArgs false
set_option linter.unusedVariables false
namespace Go.Proofs.YtijmnenojbfdnaaGreatDoor
open Go.RowKit
mutual
/-- The names of the variables of an expression, as they come. -/
def namX : Ex → List Bs
  | .mk op _ s l => (if op = 2 then [s.data.toList] else []) ++ namL l
def namL : List Ex → List Bs
  | [] => []
  | x :: l => namX x ++ namL l
end
theorem namX_eq (x : Ex) : namX x = (if x.op = 2 then [x.s.data.toList] else []) ++ namL x.l := by cases x; rw [namX]; rfl
theorem namL_nil : namL [] = [] := by rw [namL]
theorem namL_cons (x : Ex) (l : List Ex) : namL (x :: l) = namX x ++ namL l := by rw [namL]
theorem namL_append (a b : List Ex) : namL (a ++ b) = namL a ++ namL b := by
  induction a with
  | nil => rw [namL_nil]; rfl
  | cons x a ih => rw [List.cons_append, namL_cons, namL_cons, ih, List.append_assoc]
theorem namL_take {l : List Ex} {k : Nat} {y : Ex} (h : l[k]? = some y) : namL (l.take (k + 1)) = namL (l.take k) ++ namX y := by
  rw [List.take_add_one, h, namL_append]
  show _ ++ namL [y] = _
  rw [namL_cons, namL_nil, List.append_nil]
mutual
theorem namX_len : ∀ x : Ex, (namX x).length ≤ nodX x
  | .mk op v s l => by
    have := namL_len l
    rw [namX, nodX, List.length_append]
    split
    · show 1 + _ ≤ _; omega
    · show 0 + _ ≤ _; omega
theorem namL_len : ∀ l : List Ex, (namL l).length ≤ nodL l
  | [] => by rw [namL_nil]; exact Nat.zero_le _
  | x :: l => by
    have h1 := namX_len x
    have h2 := namL_len l
    rw [namL_cons, nodL_cons, List.length_append]; omega
end
theorem namL_pre (l : List Ex) (k : Nat) : (namL (l.take k)).length ≤ (namL l).length := by
  have h : namL l = namL (l.take k) ++ namL (l.drop k) := by rw [← namL_append, List.take_append_drop]
  rw [h, List.length_append]; omega
def freeX (x : Ex) : List ByteArray := (setB (namX x)).map mkS
def freeE (x : Ex) : List ByteArray × Int := if validX x then (freeX x, 0) else ([], 1)
def RetNm (w : World) (base : Nat) (ss : List Bs) (e : Ending) (w' : World) : Prop := ∃ v', e = .returned v' ∧ OwnS w' base v' ss ∧ Below base w w'
set_option maxHeartbeats 2000000 in
set_option maxRecDepth 100000 in
theorem names_any : ∀ (n : Nat) (x : Ex) (u v : Value) (ss : List Bs) (base : Nat) (w : World), IsEx n (Lt base) w u x → base ≤ w.heap.size → OwnS w base v ss → ss.length + (namX x).length ≤ 1000 →
    Calls Tryz.prog 53 #[v, u] w (RetNm w base (ss ++ namX x)) := by
  intro n
  induction n using Nat.strongRecOn with
  | _ n ih =>
    intro x u v ss base w hx hbase hown hlen
    obtain ⟨lv, rfl, _, Ax, cx, rfl⟩ := hx.cells
    have hsl := ex_slice hx
    have hNX := namX_eq x
    have hb1 := bone w (.cells #[.int .i64 x.op, .int .i64 x.v.kind, .int .i64 x.v.n, .string x.v.s, .string x.s, .slice Ax x.l.length cx] 28)
    have hN1 := Blk.new w 28 #[.int .i64 x.op, .int .i64 x.v.kind, .int .i64 x.v.n, .string x.v.s, .string x.s, .slice Ax x.l.length cx]
    have hnb : some w.heap.size ≠ v.ownBlock := fun e => by have := (World.ownsRow.lt hown w.heap.size e.symm).2; omega
    have hown1 := own_now hown hb1
    have hsl0 := hsl
    have hbb1 : Below base w _ := hb1.mono hbase
    have hbs1 := Nat.le_trans hbase hb1.size
    obtain ⟨_, _, l1, l2, _⟩ := hsl.open_
    have HNX := Lib.hid hNX
    have HLN := Lib.hid hlen
    have HFIT : Hid (x.s.size ≤ maxLen) := by obtain ⟨_, _, _, _, hs, _⟩ := hx; exact hs
    clear hx hsl hNX hlen hown
    go_enter Tryz.func53, Tryz.ntmps53
    go_upto_region 1 with fail
    generalize hw1 : w.alloc (.cells #[.int .i64 x.op, .int .i64 x.v.kind, .int .i64 x.v.n, .string x.v.s, .string x.s, .slice Ax x.l.length cx] 28) = w1 at *
    clear hw1
    obtain ⟨n0, n1, n2, n3, n4, n5⟩ := hN1.c6
    have HSL := Lib.hid hsl0
    by_cases h2 : x.op = 2
    · have HP : Hid (namX x = [x.s.data.toList] ++ namL x.l) := by show _ = _; rw [HNX.out, if_pos h2]
      have h2' : (x.op == 2) = true := by rw [h2]; rfl
      have H2 := Lib.hid h2
      clear h2 HNX
      have hsl : ss.length < 10000000 := by have := HLN.out; omega
      go_upto_region 3 with (at_builtin; refine wpList_push appStrs rfl (.tmp 10) (.tmp 13) rfl w1 [.string x.s] rfl (by simp [Value.oneCell']) _ ss.length (ss.map encStr) rfl hown1 rfl hsl hbs1 ?_; intro v' w' hown' hgr hat)
      have hN2 := hN1.grown hgr hnb
      have hbw2 : Below base w1 w' := below_of_grown hgr hbs1 (fun g hg => (World.ownsRow.lt hown1 g hg).1)
      have hbs2 := Nat.le_trans hbs1 hbw2.size
      have hownS : OwnS w' base v' (ss ++ [x.s.data.toList]) := by
        unfold OwnS
        rw [List.length_append, List.map_append]
        have e : [x.s.data.toList].map encStr = [Value.string x.s] := by
          show [Value.string (mkS x.s.data.toList)] = _
          rw [mkS_of]
        rw [e]
        exact hown'
      have hbb2 := hbb1.trans hbw2
      clear n0 n1 n2 n3 n4 n5 hown' hgr hat hown1 hN1 hsl
      obtain ⟨n0, n1, n2, n3, n4, n5⟩ := hN2.c6
      go_wp2_with fail
      go_loopw [0, 18] (fun sv i wr => ∃ k : Nat, k ≤ x.l.length ∧ i = .int .i64 (k : Int) ∧ OwnS wr base sv (ss ++ [x.s.data.toList] ++ namL (x.l.take k)) ∧ Below base w wr ∧ base ≤ wr.heap.size) (fun _ i _ => x.l.length - (intOf i).toNat)
      case atStart => exact ⟨0, Nat.zero_le _, rfl, by rw [List.take_zero, namL_nil, List.append_nil]; exact hownS, hbb2, hbs2⟩
      case round =>
        obtain ⟨k, hk, rfl, hownr, hbr, hbsr⟩ := hrel
        clear n0 n1 n2 n3 n4 n5
        by_cases hlt : k < x.l.length
        · obtain ⟨bb, oo, y, ly, n', rfl, rfl, hbb, hy, hyx, _, hyl, y0, y1, y2, y3, y4, y5⟩ := SlE.at_ (Sl.below HSL.out (RExN.kept _) hbr (Nat.le_refl _)) hlt
          obtain ⟨Ay, cy, rfl, _, _, _⟩ := hyl.open_
          have HT := Lib.hid (namL_take hy)
          have hpl := namL_pre x.l (k + 1)
          rw [HT.out, List.length_append] at hpl
          have hll : (ss ++ [x.s.data.toList] ++ namL (x.l.take k)).length + (namX y).length ≤ 1000 := by have := HLN.out; rw [HP.out] at this; simp only [List.length_append] at this ⊢; omega
          have hb4 := bone wr (.cells #[.int .i64 y.op, .int .i64 y.v.kind, .int .i64 y.v.n, .string y.v.s, .string y.s, .slice Ay y.l.length cy] 28)
          have hY4 := Blk.new wr 28 #[.int .i64 y.op, .int .i64 y.v.kind, .int .i64 y.v.n, .string y.v.s, .string y.s, .slice Ay y.l.length cy]
          have HC := Lib.hid (ih n' (Nat.lt_succ_self _) y _ _ _ base _ (hyx.below (hb4.mono hbsr) (Nat.le_refl _)) (Nat.le_trans hbsr hb4.size) (own_now hownr hb4) hll)
          have hbr4 := hbr.trans (hb4.mono hbsr)
          have hbs4 := Nat.le_trans hbsr hb4.size
          clear hll hpl hyx hyl hy hownr
          obtain ⟨d0, d1, d2, d3, d4, d5⟩ := hY4.c6
          go_wp2_with fail
          (with_reducible refine HC.out.mono ?_)
          rintro e w5 ⟨v5, rfl, hown5, hb5⟩
          clear d0 d1 d2 d3 d4 d5 y0 y1 y2 y3 y4 y5 HC hb4 hY4
          go_wp2_with fail
          go_roundw
          case rel => exact ⟨k + 1, by omega, by go_num, by rw [HT.out, ← List.append_assoc]; exact hown5, hbr4.trans hb5, Nat.le_trans hbs4 hb5.size⟩
          case measure => simp [intOf]; omega
        · have hke : k = x.l.length := by omega
          subst hke
          rw [List.take_length] at hownr
          go_wp2_with fail
          go_ret
          exact ⟨_, rfl, by rw [HP.out]; simpa using hownr, hbr⟩
    · have HP : Hid (namX x = namL x.l) := by show _ = _; rw [HNX.out, if_neg h2]; rfl
      have h2' : (x.op == 2) = false := by simpa using h2
      clear h2 HNX
      go_wp2_with fail
      go_loopw [0, 18] (fun sv i wr => ∃ k : Nat, k ≤ x.l.length ∧ i = .int .i64 (k : Int) ∧ OwnS wr base sv (ss ++ namL (x.l.take k)) ∧ Below base w wr ∧ base ≤ wr.heap.size) (fun _ i _ => x.l.length - (intOf i).toNat)
      case atStart => exact ⟨0, Nat.zero_le _, rfl, by rw [List.take_zero, namL_nil, List.append_nil]; exact hown1, hbb1, hbs1⟩
      case round =>
        obtain ⟨k, hk, rfl, hownr, hbr, hbsr⟩ := hrel
        clear n0 n1 n2 n3 n4 n5
        by_cases hlt : k < x.l.length
        · obtain ⟨bb, oo, y, ly, n', rfl, rfl, hbb, hy, hyx, _, hyl, y0, y1, y2, y3, y4, y5⟩ := SlE.at_ (Sl.below HSL.out (RExN.kept _) hbr (Nat.le_refl _)) hlt
          obtain ⟨Ay, cy, rfl, _, _, _⟩ := hyl.open_
          have HT := Lib.hid (namL_take hy)
          have hpl := namL_pre x.l (k + 1)
          rw [HT.out, List.length_append] at hpl
          have hll : (ss ++ namL (x.l.take k)).length + (namX y).length ≤ 1000 := by have := HLN.out; rw [HP.out] at this; simp only [List.length_append] at this ⊢; omega
          have hb4 := bone wr (.cells #[.int .i64 y.op, .int .i64 y.v.kind, .int .i64 y.v.n, .string y.v.s, .string y.s, .slice Ay y.l.length cy] 28)
          have hY4 := Blk.new wr 28 #[.int .i64 y.op, .int .i64 y.v.kind, .int .i64 y.v.n, .string y.v.s, .string y.s, .slice Ay y.l.length cy]
          have HC := Lib.hid (ih n' (Nat.lt_succ_self _) y _ _ _ base _ (hyx.below (hb4.mono hbsr) (Nat.le_refl _)) (Nat.le_trans hbsr hb4.size) (own_now hownr hb4) hll)
          have hbr4 := hbr.trans (hb4.mono hbsr)
          have hbs4 := Nat.le_trans hbsr hb4.size
          clear hll hpl hyx hyl hy hownr
          obtain ⟨d0, d1, d2, d3, d4, d5⟩ := hY4.c6
          go_wp2_with fail
          (with_reducible refine HC.out.mono ?_)
          rintro e w5 ⟨v5, rfl, hown5, hb5⟩
          clear d0 d1 d2 d3 d4 d5 y0 y1 y2 y3 y4 y5 HC hb4 hY4
          go_wp2_with fail
          go_roundw
          case rel => exact ⟨k + 1, by omega, by go_num, by rw [HT.out, ← List.append_assoc]; exact hown5, hbr4.trans hb5, Nat.le_trans hbs4 hb5.size⟩
          case measure => simp [intOf]; omega
        · have hke : k = x.l.length := by omega
          subst hke
          rw [List.take_length] at hownr
          go_wp2_with fail
          go_ret
          exact ⟨_, rfl, by rw [HP.out]; simpa using hownr, hbr⟩
theorem namX_fit : ∀ (n : Nat) (x : Ex) (D : Nat → Prop) (w : World) (u : Value), IsEx n D w u x → ∀ s ∈ namX x, s.length ≤ maxLen := by
  intro n
  induction n using Nat.strongRecOn with
  | _ n ih =>
    intro x D w u hx s hs
    obtain ⟨lv, rfl, _, Ax, cx, rfl⟩ := hx.cells
    have hsl := ex_slice hx
    have hfit : x.s.size ≤ maxLen := by obtain ⟨_, _, _, _, h, _⟩ := hx; exact h
    rw [namX_eq, List.mem_append] at hs
    rcases hs with hs | hs
    · split at hs
      · rw [List.mem_singleton] at hs; subst hs
        exact Nat.le_trans (Nat.le_of_eq Array.length_toList) hfit
      · cases hs
    · have key : ∀ l : List Ex, (∀ y ∈ l, ∀ s ∈ namX y, s.length ≤ maxLen) → ∀ s ∈ namL l, s.length ≤ maxLen := by
        intro l
        induction l with
        | nil => intro _ s h; rw [namL_nil] at h; cases h
        | cons a l ihl =>
          intro h s hs
          rw [namL_cons, List.mem_append] at hs
          rcases hs with hs | hs
          · exact h a (by simp) s hs
          · exact ihl (fun y hy => h y (by simp [hy])) s hs
      refine key x.l (fun y hy => ?_) s hs
      obtain ⟨k, hk, rfl⟩ := List.mem_iff_getElem.1 hy
      obtain ⟨_, _, y, _, n', hn, _, _, hy', hyx, _⟩ := SlE.at_ hsl hk
      rw [List.getElem?_eq_getElem hk] at hy'
      injection hy' with hy'
      rw [hy']
      exact ih n' (by omega) y D w _ hyx
def RetSE' (r : List ByteArray × Int) (w : World) (e : Ending) (w' : World) : Prop := ∃ v, e = .returned (.tuple #[v, .int .i64 r.2]) ∧ SlS (Lt w'.heap.size) w' v r.1 ∧ Below w.heap.size w w'
set_option maxHeartbeats 2000000 in
set_option maxRecDepth 100000 in
theorem free_any (n : Nat) (x : Ex) (u : Value) (w : World) (h : IsEx n (Lt w.heap.size) w u x) :
    Calls Tryz.prog 18 #[u] w (RetSE' (freeE x) w) := by
  have h0 := h
  obtain ⟨lv, rfl, _, Ax, cx, rfl⟩ := h.cells
  have hb1 := bone w (.cells #[.int .i64 x.op, .int .i64 x.v.kind, .int .i64 x.v.n, .string x.v.s, .string x.s, .slice Ax x.l.length cx] 28)
  have hN1 := Blk.new w 28 #[.int .i64 x.op, .int .i64 x.v.kind, .int .i64 x.v.n, .string x.v.s, .string x.s, .slice Ax x.l.length cx]
  have hx1 := h0.now hb1
  have HV := Lib.hid (validX_any n x _ _ hx1)
  have HFIT := Lib.hid (namX_fit n x _ _ _ h0)
  clear h h0
  go_enter Tryz.func18, Tryz.ntmps18
  obtain ⟨n0, n1, n2, n3, n4, n5⟩ := hN1.c6
  go_wp2_with fail
  refine HV.out.mono ?_
  rintro e w2 ⟨rfl, hb2⟩
  have hbw2 := bthen hb1 hb2
  have hN2 := hN1.now hb2
  have hx2 := hx1.now hb2
  clear HV
  generalize hq : validX x = q at *
  have HQ := Lib.hid hq
  clear hq
  cases q
  · have HE : Hid (freeE x = ([], 1)) := by show _ = _; unfold freeE; rw [if_neg (by rw [HQ.out]; exact Bool.false_ne_true)]
    go_wp2_with fail
    go_ret2
    exact ⟨_, by rw [HE.out]; rfl, by rw [HE.out]; exact Sl.none_, hbw2⟩
  · have HE : Hid (freeE x = (freeX x, 0)) := by show _ = _; unfold freeE; rw [if_pos HQ.out]
    have hlen : (namX x).length ≤ 1000 := by have := namX_len x; have := valid_nod HQ.out; omega
    have HNM := Lib.hid (names_any n x _ (.slice none 0 0) [] w2.heap.size w2 hx2 (Nat.le_refl _) (World.ownsRow_nil _ _ _ _) (by simpa using hlen))
    have HLN := Lib.hid hlen
    clear hlen n0 n1 n2 n3 n4 n5
    obtain ⟨n0, n1, n2, n3, n4, n5⟩ := hN2.c6
    go_wp2_with fail
    (with_reducible refine HNM.out.mono ?_)
    rintro e w3 ⟨v3, rfl, hown3, hb3⟩
    rw [List.nil_append] at hown3
    have HS := Lib.hid (sortS _ _ _ _ hown3 HLN.out)
    clear HNM n0 n1 n2 n3 n4 n5
    go_wp2_with fail
    (with_reducible refine HS.out.mono ?_)
    rintro e w4 ⟨rfl, hown4, hb4⟩
    have HC := Lib.hid (compactS _ _ _ _ hown4 (by rw [sortB_len]; exact HLN.out) (fun s hs => HFIT.out s ((setB_mem _ s).1 hs)))
    clear HS
    go_wp2_with fail
    (with_reducible refine HC.out.mono ?_)
    rintro e w5 ⟨v5, rfl, hsl5, hb5⟩
    go_wp2_with fail
    go_ret2
    exact ⟨_, by rw [HE.out]; rfl, by rw [HE.out]; exact hsl5, (hbw2.trans (hb3.mono hbw2.size)).trans ((hb4.mono hbw2.size).trans (hb5.mono hbw2.size))⟩
end Go.Proofs.YtijmnenojbfdnaaGreatDoor

namespace Go.Proofs.YtijmnenojbfdnaaGreatDoor
open Go.RowKit
def FreeRes (l : List Bs) (ns : List Bs) (r : List Bs) : Prop := Asc r ∧ (∀ x, x ∈ r ↔ x ∈ l ∨ x ∈ ns) ∧ r.length ≤ l.length + ns.length
def RetFr (l ns : List Bs) (w : World) (e : Ending) (w' : World) : Prop := ∃ v' r, e = .returned v' ∧ SlS (Lt w'.heap.size) w' v' (r.map mkS) ∧ FreeRes l ns r ∧ Below w.heap.size w w'
theorem FreeRes.nil {l : List Bs} (h : Asc l) : FreeRes l [] l := ⟨h, fun x => ⟨Or.inl, fun h' => by rcases h' with h' | h'; exact h'; cases h'⟩, by simp⟩
theorem FreeRes.step {l ns ms r r' : List Bs} (h : FreeRes l ns r) (k : FreeRes r ms r') : FreeRes l (ns ++ ms) r' := by
  obtain ⟨h1, h2, h3⟩ := h
  obtain ⟨k1, k2, k3⟩ := k
  refine ⟨k1, fun x => ?_, by rw [List.length_append]; omega⟩
  rw [k2, h2, List.mem_append, or_assoc]
theorem FreeRes.ins {l r : List Bs} {s : Bs} (h : InsRes l s r) : FreeRes l [s] r := ⟨h.1, fun x => by rw [h.2.1, List.mem_singleton], h.2.2⟩
set_option maxHeartbeats 2000000 in
set_option maxRecDepth 100000 in
theorem free_ref : ∀ (n : Nat) (x : Ex) (u v : Value) (l : List Bs) (w : World), IsEx n (Lt w.heap.size) w u x → okX x = true → SlS (Lt w.heap.size) w v (l.map mkS) → Asc l → l.length + (namX x).length ≤ 900 →
    Calls Tryz.prog 59 #[v, u] w (RetFr l (namX x) w) := by
  intro n
  induction n using Nat.strongRecOn with
  | _ n ih =>
    intro x u v l w hx hok hv ha hlen
    have hxx := hx
    obtain ⟨lv, rfl, _, Ax, cx, rfl⟩ := hx.cells
    obtain ⟨Av, cv, rfl, v1, v2, hv⟩ := hv.open_
    have hsl := ex_slice hx
    obtain ⟨A', c', e0, l1, l2, _⟩ := hsl.open_
    injection e0 with e1 _ e2
    subst e1 e2
    have hNX := namX_eq x
    have hb1 := bone w (.cells #[.int .i64 x.op, .int .i64 x.v.kind, .int .i64 x.v.n, .string x.v.s, .string x.s, .slice Ax x.l.length cx] 28)
    have hN1 := Blk.new w 28 #[.int .i64 x.op, .int .i64 x.v.kind, .int .i64 x.v.n, .string x.v.s, .string x.s, .slice Ax x.l.length cx]
    have hv1 := hv.now hb1
    have hsl1 := hsl.now hb1
    have hs8 : shapeX x = true := by
      have := hok
      rw [okX_eq, Bool.and_eq_true, Bool.and_eq_true] at this
      exact this.1.1
    have HSH := Lib.hid (shape_len hs8).2.1
    have HOL := Lib.hid (okX_l hok)
    have HNX := Lib.hid hNX
    have HLN := Lib.hid hlen
    have HFIT : Hid (x.s.size ≤ maxLen) := by obtain ⟨_, _, _, _, hs, _⟩ := hxx; exact hs
    have HA := Lib.hid ha
    clear hx hxx hsl hNX hlen hv ha hs8 hok
    rw [List.length_map] at hv1 v1 ⊢
    go_enter Tryz.func59, Tryz.ntmps59
    go_upto_region 1 with fail
    generalize hw1 : w.alloc (.cells #[.int .i64 x.op, .int .i64 x.v.kind, .int .i64 x.v.n, .string x.v.s, .string x.s, .slice Ax x.l.length cx] 28) = w1 at *
    clear hw1
    obtain ⟨n0, n1, n2, n3, n4, n5⟩ := hN1.c6
    by_cases h2 : x.op = 2
    · have HP : Hid (namX x = [x.s.data.toList]) := by
        show _ = _
        rw [HNX.out, if_pos h2, List.eq_nil_of_length_eq_zero (HSH.out h2), namL_nil]; rfl
      have h2' : (x.op == 2) = true := by rw [h2]; rfl
      clear h2 HNX
      have HI := Lib.hid (insert_ref _ l x.s w1 hv1 HA.out HFIT.out (by have := HLN.out; omega))
      go_wp2_with fail
      (with_reducible refine HI.out.mono ?_)
      rintro e w2 ⟨v', r, rfl, hsl2, hres, hb2⟩
      go_wp2_with fail
      go_ret
      exact ⟨_, r, rfl, hsl2, by rw [HP.out]; exact FreeRes.ins hres, bthen hb1 hb2⟩
    · have HP : Hid (namX x = namL x.l) := by show _ = _; rw [HNX.out, if_neg h2]; rfl
      have h2' : (x.op == 2) = false := by simpa using h2
      clear h2 HNX
      go_wp2_with fail
      go_loopw [0, 5] (fun sv i wr => ∃ (k : Nat) (r : List Bs), k ≤ x.l.length ∧ i = .int .i64 (k : Int) ∧ SlS (Lt wr.heap.size) wr sv (r.map mkS) ∧ FreeRes l (namL (x.l.take k)) r ∧ Below w.heap.size w wr ∧ Below w1.heap.size w1 wr) (fun _ i _ => x.l.length - (intOf i).toNat)
      case atStart => exact ⟨0, l, Nat.zero_le _, rfl, hv1, by rw [List.take_zero, namL_nil]; exact FreeRes.nil HA.out, hb1, Below.refl _ _⟩
      case round =>
        obtain ⟨k, r, hk, rfl, hsv, hres, hbr, hb1r⟩ := hrel
        have hNr := hN1.now hb1r
        have HRES := Lib.hid hres
        clear n0 n1 n2 n3 n4 n5 hres
        obtain ⟨n0, n1, n2, n3, n4, n5⟩ := hNr.c6
        by_cases hlt : k < x.l.length
        · obtain ⟨bb, oo, y, ly, n', rfl, rfl, hbb, hy, hyx, _, hyl, y0, y1, y2, y3, y4, y5⟩ := SlE.at_ (hsl1.now hb1r) hlt
          obtain ⟨Ay, cy, rfl, _, _, _⟩ := hyl.open_
          have HT := Lib.hid (namL_take hy)
          have hpl := namL_pre x.l (k + 1)
          rw [HT.out, List.length_append] at hpl
          have hrl := HRES.out.2.2
          have HC := Lib.hid (ih n' (Nat.lt_succ_self _) y _ _ r wr hyx (okL_mem HOL.out y (List.mem_of_getElem? hy)) hsv HRES.out.1 (by have := HLN.out; rw [HP.out] at this; omega))
          have i1 : (k : Int) < (x.l.length : Int) := by omega
          clear hpl hyx hyl hy hsv hrl
          go_wp2_with fail
          (with_reducible refine HC.out.mono ?_)
          rintro e w5 ⟨v5, r', rfl, hsl5, hres5, hb5⟩
          have HR5 := Lib.hid hres5
          clear y0 y1 y2 y3 y4 y5 HC hres5
          go_wp2_with fail
          go_roundw
          case rel => exact ⟨k + 1, r', by omega, by go_num, hsl5, by rw [HT.out]; exact HRES.out.step HR5.out, bthen hbr hb5, bthen hb1r hb5⟩
          case measure => simp [intOf]; omega
        · have hke : k = x.l.length := by omega
          subst hke
          rw [List.take_length] at HRES
          go_wp2_with fail
          go_ret
          exact ⟨_, r, rfl, hsv, by rw [HP.out]; exact HRES.out, hbr⟩
theorem freeR_ref (n : Nat) (x : Ex) (u : Value) (w : World) (h : IsEx n (Lt w.heap.size) w u x) (hv : validX x = true) :
    Calls Tryz.prog 23 #[u] w fun e w' => ∃ v, e = .returned v ∧ SlS (Lt w'.heap.size) w' v (freeX x) ∧ Below w.heap.size w w' := by
  have h0 := h
  obtain ⟨lv, rfl, _, Ax, cx, rfl⟩ := h.cells
  have hb1 := bone w (.cells #[.int .i64 x.op, .int .i64 x.v.kind, .int .i64 x.v.n, .string x.v.s, .string x.s, .slice Ax x.l.length cx] 28)
  have hN1 := Blk.new w 28 #[.int .i64 x.op, .int .i64 x.v.kind, .int .i64 x.v.n, .string x.v.s, .string x.s, .slice Ax x.l.length cx]
  have hlen : (namX x).length ≤ 900 := by have := namX_len x; have := valid_nod hv; omega
  have HC := Lib.hid (free_ref n x _ (.slice none 0 0) [] _ (h0.now hb1) (valid_ok hv) Sl.none_ (by simp [Asc]) (by simpa using hlen))
  clear h h0 hlen
  go_enter Tryz.func23, Tryz.ntmps23
  obtain ⟨n0, n1, n2, n3, n4, n5⟩ := hN1.c6
  go_wp2_with fail
  (with_reducible refine HC.out.mono ?_)
  rintro e w2 ⟨v2, r, rfl, hsl, hres, hb2⟩
  have hr : r = setB (namX x) := setB_unique hres.1 fun y => by rw [hres.2.1]; simp
  subst hr
  clear hres
  go_wp2_with fail
  go_ret
  exact ⟨_, rfl, hsl, bthen hb1 hb2⟩
end Go.Proofs.YtijmnenojbfdnaaGreatDoor

namespace Go.Proofs.YtijmnenojbfdnaaGreatDoor
open Go.RowKit
theorem equalS (u v : Value) (xs ys : List ByteArray) (w : World) (hu : SlS (Lt w.heap.size) w u xs) (hv : SlS (Lt w.heap.size) w v ys) :
    Calls Tryz.prog 22 #[u, v] w fun e w' => e = .returned (.bool (decide (xs = ys))) ∧ ∃ q, w' = w.drewN q := by
  obtain ⟨A, c, rfl, h1, h2, hu⟩ := hu.open_
  obtain ⟨A', c', rfl, h1', h2', hv⟩ := hv.open_
  by_cases hn : 0 < xs.length ∧ 0 < ys.length
  · obtain ⟨b, o, rfl, hD, _, hc⟩ := hu.cells hn.1
    obtain ⟨b', o', rfl, hD', _, hc'⟩ := hv.cells hn.2
    refine (Tryz.slices_Equal_string b o xs.length c b' o' ys.length c' xs ys w (Nat.le_refl _) (Nat.le_refl _) (by omega) (by omega) hc hc').mono ?_
    rintro e w' ⟨rfl, hq⟩
    rw [List.take_of_length_le (Nat.le_refl _), List.take_of_length_le (Nat.le_refl _)]
    exact ⟨rfl, hq⟩
  · by_cases hl : xs.length = ys.length
    · have e1 : xs = [] := List.eq_nil_of_length_eq_zero (by omega)
      have e2 : ys = [] := List.eq_nil_of_length_eq_zero (by omega)
      subst e1 e2
      refine (Tryz.slices_Equal_string_empty A A' c 0 c' w (by omega)).mono ?_
      rintro e w' ⟨rfl, rfl⟩
      exact ⟨ret_bool (by simp), 0, rfl⟩
    · refine (Tryz.slices_Equal_string_lens A A' xs.length c ys.length c' w hl).mono ?_
      rintro e w' ⟨rfl, rfl⟩
      refine ⟨ret_bool ?_, 0, rfl⟩
      symm
      rw [decide_eq_false_iff_not]
      exact fun e => hl (by rw [e])
end Go.Proofs.YtijmnenojbfdnaaGreatDoor

namespace Go.Proofs.YtijmnenojbfdnaaGreatDoor
open Go.RowKit
set_option maxHeartbeats 4000000 in
set_option maxRecDepth 100000 in
theorem exprTexts_law {n : Nat} (x : Ex) (ux : Value) (w : World) (hx : IsEx n (Lt w.heap.size) w ux x) (ha : Amb w) :
    Calls Tryz.prog 4 #[ux] w (RetTr w) := by
  have hxx := hx
  obtain ⟨lv, rfl, _, Ax, cx, rfl⟩ := hx.cells
  have hb1 := bone w (.cells (exC6 x Ax cx) 28)
  have hN1 := Blk.new w 28 (exC6 x Ax cx)
  have hx1 := hxx.now hb1
  have HAW := Lib.hid (exAwake_any _ (ha.now hb1))
  have HA := Lib.hid ha
  clear hx hxx ha
  go_enter Tryz.func4, Tryz.ntmps4
  go_wp2_with fail
  (with_reducible refine HAW.out.mono ?_)
  rintro e w2 ⟨rfl, hb2⟩
  have hN2 := hN1.now hb2
  have hx2 := hx1.now hb2
  have hb2w := bthen hb1 hb2
  clear HAW hN1 hx1
  obtain ⟨n0, n1, n2, n3, n4, n5⟩ := hN2.c6
  have hb3 := bone w2 (.cells (exC6 x Ax cx) 28)
  have hb3w := bthen hb2w hb3
  have HSM := Lib.hid (small_any _ _ _ _ (ex_one hx2))
  have hN3 := hN2.now hb3
  have hx3 := hx2.now hb3
  go_wp2_with fail
  (with_reducible refine HSM.out.mono ?_)
  rintro e w4 ⟨q, rfl, hb4⟩
  have hN4 := hN3.now hb4
  have hx4 := hx3.now hb4
  have hb4w := bthen hb3w hb4
  clear HSM hN2 hx2 hN3 hx3 n0 n1 n2 n3 n4 n5 hb1 hb2 hb2w hb3 hb3w hb4
  cases q
  · go_wp2_with fail
    go_ret
    exact ⟨rfl, hb4w⟩
  obtain ⟨n0, n1, n2, n3, n4, n5⟩ := hN4.c6
  have HTX := Lib.hid (exText_any _ x _ w4 hx4 (HA.out.now hb4w))
  go_wp2_with fail
  (with_reducible refine HTX.out.mono ?_)
  rintro e w5 ⟨rfl, hb5⟩
  have hN5 := hN4.now hb5
  have hx5 := hx4.now hb5
  have hb5w := bthen hb4w hb5
  clear HTX hN4 hx4 hb4w hb5 n0 n1 n2 n3 n4 n5
  obtain ⟨n0, n1, n2, n3, n4, n5⟩ := hN5.c6
  have HFR := Lib.hid (free_any _ x _ w5 hx5)
  go_wp2_with fail
  (with_reducible refine HFR.out.mono ?_)
  rintro e w6 ⟨vf, rfl, hsf, hb6⟩
  obtain ⟨Af, cf, rfl, f1, f2, hsf⟩ := hsf.open_
  have hN6 := hN5.now hb6
  have hx6 := hx5.now hb6
  have hb6w := bthen hb5w hb6
  clear HFR hN5 hx5 hb5w hb6 n0 n1 n2 n3 n4 n5
  obtain ⟨n0, n1, n2, n3, n4, n5⟩ := hN6.c6
  have HVR := Lib.hid (validX_ref _ x _ w6 hx6)
  go_wp2_with fail
  (with_reducible refine HVR.out.mono ?_)
  rintro e w7 ⟨rfl, hb7⟩
  have hN7 := hN6.now hb7
  have hx7 := hx6.now hb7
  have hb7w := bthen hb6w hb7
  have hsf7 := hsf.now hb7
  have HVA := Lib.hid (validX_any _ x _ w7 hx7)
  clear HVR hN6 hx6 hb6w hb7 hsf n0 n1 n2 n3 n4 n5
  obtain ⟨n0, n1, n2, n3, n4, n5⟩ := hN7.c6
  cases hq : validX x
  · have HT : Hid (txE _ x = (⟨#[]⟩, 1)) := (show txE n x = _ by unfold txE; rw [hq]; rfl)
    have HF : Hid (freeE x = ([], 1)) := by show _ = _; unfold freeE; rw [hq]; rfl
    rw [hq] at HVA
    rw [HT.out]
    rw [HF.out] at hsf7 f1 ⊢
    clear hq HT HF hsf7
    go_wp2_with fail
    (with_reducible refine HVA.out.mono ?_)
    rintro e w8 ⟨rfl, hb8⟩
    have hb8w := bthen hb7w hb8
    go_wp2_with fail
    go_ret
    exact ⟨rfl, hb8w⟩
  · have HQ := Lib.hid hq
    have HF : Hid (freeE x = (freeX x, 0)) := by show _ = _; unfold freeE; rw [hq]; rfl
    rw [hq] at HVA
    rw [HF.out] at hsf7 f1 ⊢
    have HTR := Lib.hid (textR_ref _ x _ w7 hx7 hq)
    clear hq HF HVA
    generalize txE n x = te at *
    obtain ⟨ts, tz⟩ := te
    go_wp2_with fail
    (with_reducible refine HTR.out.mono ?_)
    rintro e w8 ⟨rfl, hb8⟩
    have hN8 := hN7.now hb8
    have hx8 := hx7.now hb8
    have hb8w := bthen hb7w hb8
    have hsf8 := SlS.now hsf7 hb8
    have HVA := Lib.hid (validX_any _ x _ w8 hx8)
    rw [HQ.out] at HVA
    clear HTR hN7 hx7 hb7w hb8 hsf7 n0 n1 n2 n3 n4 n5
    obtain ⟨n0, n1, n2, n3, n4, n5⟩ := hN8.c6
    go_wp2_with fail
    (with_reducible refine HVA.out.mono ?_)
    rintro e w9 ⟨rfl, hb9⟩
    have hN9 := hN8.now hb9
    have hx9 := hx8.now hb9
    have hb9w := bthen hb8w hb9
    have hsf9 := hsf8.now hb9
    have HFF := Lib.hid (freeR_ref _ x _ w9 hx9 HQ.out)
    clear HVA hN8 hx8 hb8w hb9 hsf8 n0 n1 n2 n3 n4 n5
    obtain ⟨n0, n1, n2, n3, n4, n5⟩ := hN9.c6
    go_wp2_with fail
    (with_reducible refine HFF.out.mono ?_)
    rintro e w10 ⟨vr, rfl, hsr, hb10⟩
    have hb10w := bthen hb9w hb10
    have HEQ := Lib.hid (equalS _ _ _ _ w10 (hsf9.now hb10) hsr)
    clear HFF n0 n1 n2 n3 n4 n5
    go_wp2_with fail
    (with_reducible refine HEQ.out.mono ?_)
    rintro e w11 ⟨rfl, qn, rfl⟩
    go_wp2_with fail
    go_ret
    exact ⟨rfl, bdrawn hb10w _⟩
end Go.Proofs.YtijmnenojbfdnaaGreatDoor

namespace Go.Proofs.YtijmnenojbfdnaaGreatDoor
open Go.ChangeShapes Go.WideShapes Go.RowKit Go.Deep
theorem add_lit' (b o n j : Nat) : ((⟨b, o, none⟩ : Addr).add n).add j = ⟨b, o + n + j, none⟩ := by
  rw [add_add']; unfold Addr.add
  by_cases h : n + j = 0
  · have h1 : n = 0 := by omega
    have h2 : j = 0 := by omega
    subst h1 h2; rfl
  · rw [if_neg h]; simp [Nat.add_assoc]
theorem cell_spot {w : World} {a : Addr} {u : Value} (h : w.cell? a = some u) : a = ⟨a.block, a.off, none⟩ ∧ a.block < w.heap.size := by
  obtain ⟨b, o, s⟩ := a
  unfold World.cell? at h
  cases s with
  | none =>
    refine ⟨rfl, ?_⟩
    rcases Nat.lt_or_ge b w.heap.size with h' | h'
    · exact h'
    · simp [Array.getElem?_eq_none h'] at h
  | some s => split at h <;> simp at h
section
variable {H : Type} {enc : TypeId × Value → H} {P : Program} {w : World} {base : Nat} {spare : Nat → Bool} {held : Bool}
theorem fit_of_wf {n : Int} (h : (Lit.int .i64 n).wf = true) : Fit n := by
  have h' : decide ((-9223372036854775808 : Int) ≤ n) = true ∧ decide (n ≤ (9223372036854775807 : Int)) = true := by
    rw [← Bool.and_eq_true]; exact h
  unfold Fit
  simpa using h'
theorem post_of_below {f : Func} {s : ChangeSpec} {apart fresh handsOn again : Bool} {W W' : World} {args : Array Value} {v : Value} {ds gs : List (DataW H)} {before pa pv : List MemPlace}
    (hW : DataW.Whole enc P f.params.toList s.vars apart W args.toList ds gs before)
    (hres : ∀ (b : Nat) (sp : Nat → Bool) (hd : Bool), DataW.TrodAll enc P W' b sp hd f.resultTypes.toList (v.resultList f.resultTypes.size) (s.fn H (ds ++ gs)).results [])
    (hargs : ∀ sp : Nat → Bool, (∀ p ∈ before, sp p.block = true) → DataW.TrodAll enc P W' 0 sp true f.params.toList args.toList (s.fn H (ds ++ gs)).args pa)
    (hvars : ∀ sp : Nat → Bool, (∀ p ∈ before, sp p.block = true) → DataW.TrodVars enc P W' sp s.vars (s.fn H (ds ++ gs)).vars pv)
    (hps : before = pa ++ pv) (hb : Below W.heap.size W W')
    (hok : ∀ (j : Nat) (t : TypeId) (r : Value), f.resultTypes[j]? = some t → (v.resultList f.resultTypes.size)[j]? = some r → Value.okWide P W' .any 0 t r) :
    s.post enc P f apart fresh handsOn again W args v W' := by
  have hlt : ∀ p ∈ before, p.block < W.heap.size := fun p hp => hW.lt p hp
  have hold : ∀ p ∈ before, (fun b => decide (b < W.heap.size)) p.block = true := fun p hp => by simpa using hlt p hp
  refine ⟨ds, gs, before, [], pa, pv, hW, hres _ _ _, hargs _ hold, hvars _ hold, World.keptBut_mono (fun p hp => ⟨hp, ?_⟩) (hb.frame (· ∈ before)), fun _ => ?_⟩
  · rw [hps, List.mem_append] at hp
    exact Or.inr hp
  · obtain ⟨_, _, _, _, _, hz, hn⟩ := hW
    refine ⟨hok, _, _, ([] ++ pa) ++ pv, ⟨[] ++ pa, pv, trodAll_append (hargs _ (fun _ _ => rfl)) (hres _ _ _), hvars _ (fun _ _ => rfl), rfl, ?_, ?_⟩, ?_⟩
    · intro b off hp
      have hin : MemPlace.cell b off ∈ before := by rw [hps]; simpa using hp
      rw [hb.frozen (hlt _ hin)]
      exact hz b off hin
    · intro ha
      have := hn ha
      rw [hps] at this
      simpa using this
    · intro p hp _
      rw [hps]
      simpa using hp
end
end Go.Proofs.YtijmnenojbfdnaaGreatDoor

namespace Go.Proofs.YtijmnenojbfdnaaGreatDoor
open Go.ChangeShapes Go.WideShapes Go.ChangeAt Go.RowKit Go.Deep
theorem own : ownKnob Tryz.prog.godebug = none := by kernel_rfl
theorem laidOut : laidOutB Tryz.prog = true := by kernel_rfl
theorem door_met (os : Os) (args : Array Value) : laidMetH Tryz.prog Rows.exprValuesRow.laid ((World.doorLaid Tryz.prog 400 os).forCall (fun _ _ => 0) ⟨#[], args, []⟩).memory :=
  laidMetH_of_parts3 (fuel := 80) (laidMet_of_run' 80 (by kernel_rfl) (by kernel_rfl)) (by kernel_rfl) (by kernel_rfl)
theorem stays {H : Type} {enc : TypeId × Value → H} {t : TypeId} (hr : Tryz.prog.readableRec t = true) (hrow : t < Tryz.prog.types.size) {W W' : World} {v : Value} {d : DataW H} {ps : List MemPlace} {sp : Nat → Bool}
    (h : DataW.Trod enc Tryz.prog W 0 (fun _ => true) true t v d ps) (hb : Below W.heap.size W W') (hlt : ∀ x ∈ ps, x.block < W.heap.size) (hsp : ∀ x ∈ ps, sp x.block = true) : DataW.Trod enc Tryz.prog W' 0 sp true t v d ps :=
  WideElems.Trod_stays laidOut hr hrow h (fun x hx => hb.same (hlt x hx)) hsp
theorem cellsInt : Tryz.prog.cellsOf 3 = 1 := by kernel_rfl
theorem cellsStr : Tryz.prog.cellsOf 9 = 1 := by kernel_rfl
theorem cellsVal : Tryz.prog.cellsOf 25 = 3 := by kernel_rfl
instance : Inhabited Ex := ⟨.mk 0 noV emptyS []⟩
instance : Inhabited Val := ⟨noV⟩
instance : Inhabited Var := ⟨⟨emptyS, 0, 0, 0, []⟩⟩
theorem readEx : Tryz.prog.readableRec 28 = true := by kernel_rfl
theorem rowEx : 28 < Tryz.prog.types.size := of_decide_eq_true (by kernel_rfl)
theorem cellsExpr : Tryz.prog.cellsOf 28 = 6 := by kernel_rfl
theorem cellsExprs : Tryz.prog.cellsOf 26 = 1 := by kernel_rfl
section
variable {H : Type} {enc : TypeId × Value → H} {P : Program} {w : World} {base : Nat} {spare : Nat → Bool} {held : Bool}
theorem Sl.of_trodN {α : Type} [Inhabited α] {size : Nat} {R : ElemR α} {t e : TypeId} {fuel : Nat} {v : Value} {x : DataW H × List MemPlace} (ht : P.underlying t = some (.slice e)) (hsz : P.cellsOf e = size) (hs0 : 0 < size)
    (hR : ∀ (fuel' : Nat), fuel' < fuel → ∀ (cs : List Value) (y : DataW H × List MemPlace), DataW.trod enc P w base spare held fuel' e cs = some y → ∃ z, R (Lt w.heap.size) w z cs)
    (h : DataW.trod enc P w base spare held fuel t [v] = some x) : ∃ xs, Sl size R (Lt w.heap.size) w v xs := by
  rcases DataW.trod_slice ht h with ⟨hv, _⟩ | ⟨a, len, cap, elems, rest, n, hfu, hv, _, _, hl, hm, hlen, hi, _, _⟩
  · injection hv with hv; subst hv; exact ⟨[], Sl.none_⟩
  · injection hv with hv
    subst hv
    have key : ∀ i, ∃ z : α, i < len → ∃ cs : List Value, cs.length = size ∧ R (Lt w.heap.size) w z cs ∧ ∀ j, j < size → w.cell? ((a.add (i * size)).add j) = cs[j]? := by
      intro i
      by_cases hlt : i < len
      · have hh := hi i hlt
        rw [List.getElem?_eq_getElem (by omega)] at hh
        obtain ⟨cs', hc, htr⟩ := Option.bind_eq_some_iff.1 hh
        rw [hsz] at hc
        obtain ⟨z, hz⟩ := hR n (by omega) _ _ htr
        obtain ⟨_, hcl, hat⟩ := World.cells?_some hc
        exact ⟨z, fun _ => ⟨cs', hcl, hz, hat⟩⟩
      · exact ⟨default, fun h' => absurd h' hlt⟩
    refine ⟨(List.range len).map fun i => Classical.choose (key i), some a, cap, by simp, by simpa using hl, hm, fun i z hz => ?_⟩
    rw [List.getElem?_map] at hz
    have hlt : i < len := by
      rcases Nat.lt_or_ge i len with h' | h'
      · exact h'
      · rw [List.getElem?_eq_none (by simpa using h')] at hz; simp at hz
    rw [List.getElem?_range hlt] at hz
    injection hz with hz
    obtain ⟨cs, hcl, hr, hat⟩ := Classical.choose_spec (key i) hlt
    obtain ⟨cs0, hcl0, _, hat0⟩ := Classical.choose_spec (key 0) (by omega)
    have h00 := hat0 0 hs0
    have hc0 : cs0[0]? = some (cs0[0]'(by omega)) := List.getElem?_eq_getElem (by omega)
    rw [hc0] at h00
    have ha0 : (a.add (0 * size)).add 0 = a := by simp [Addr.add]
    rw [ha0] at h00
    obtain ⟨ha, hblk⟩ := cell_spot h00
    replace hz : Classical.choose (key i) = z := hz
    rw [hz] at hr
    refine ⟨a.block, a.off, cs, by rw [← ha], hblk, hcl, hr, fun j u hu => ?_⟩
    have hj : j < size := by
      rcases Nat.lt_or_ge j cs.length with h' | h'
      · omega
      · rw [List.getElem?_eq_none h'] at hu; cases hu
    have := hat j hj
    rw [ha, add_lit'] at this
    rw [this, hu]
theorem trod_struct4N {t : TypeId} {f0 f1 f2 f3 : Field} {fuel : Nat} {cs : List Value} {x : DataW H × List MemPlace} (ht : P.underlying t = some (.struct #[f0, f1, f2, f3])) (h : DataW.trod enc P w base spare held fuel t cs = some x) :
    ∃ y0 y1 y2 y3 n, fuel = n + 1 ∧ cs.length = P.cellsOf t ∧ DataW.trod enc P w base spare held n f0.type ((cs.drop f0.offset).take (P.cellsOf f0.type)) = some y0 ∧
      DataW.trod enc P w base spare held n f1.type ((cs.drop f1.offset).take (P.cellsOf f1.type)) = some y1 ∧ DataW.trod enc P w base spare held n f2.type ((cs.drop f2.offset).take (P.cellsOf f2.type)) = some y2 ∧
      DataW.trod enc P w base spare held n f3.type ((cs.drop f3.offset).take (P.cellsOf f3.type)) = some y3 := by
  obtain ⟨xs, n, hn, rfl, hl, hlen, hf⟩ := DataW.trod_struct ht h
  match xs, hlen with
  | [y0, y1, y2, y3], _ => exact ⟨y0, y1, y2, y3, n, hn, hl, by simpa using hf 0 f0 rfl, by simpa using hf 1 f1 rfl, by simpa using hf 2 f2 rfl, by simpa using hf 3 f3 rfl⟩
end
section
variable {H : Type} {enc : TypeId × Value → H} {w : World} {base : Nat} {spare : Nat → Bool} {held : Bool}
set_option maxRecDepth 100000 in
theorem valCells_of (fuel : Nat) (cs : List Value) (y : DataW H × List MemPlace) (h : DataW.trod enc Tryz.prog w base spare held fuel 25 cs = some y) : ∃ v, RVal (Lt w.heap.size) w v cs := by
  obtain ⟨y0, y1, y2, n, _, hl, h0, h1, h2⟩ := trod_struct3 Tryz.underlying25 h
  rw [cellsVal] at hl
  match cs, hl with
  | [c0, c1, c2], _ =>
    simp only [cellsStr, cellsInt, List.drop_zero, List.take_succ_cons, List.take_zero, List.drop_succ_cons] at h0 h1 h2
    obtain ⟨a, e0, _, w0⟩ := DataW.trod_int Tryz.underlying3 h0
    obtain ⟨b, e1, _, w1⟩ := DataW.trod_int Tryz.underlying3 h1
    obtain ⟨s, e2, _, hs⟩ := DataW.trod_string Tryz.underlying9 h2
    injection e0 with e0; injection e1 with e1; injection e2 with e2
    subst e0 e1 e2
    exact ⟨⟨a, b, s⟩, rfl, fit_of_wf w0, fit_of_wf w1, hs⟩
set_option maxRecDepth 100000 in
theorem exCells_of : ∀ (N fuel : Nat), fuel ≤ N → ∀ (cs : List Value) (y : DataW H × List MemPlace), DataW.trod enc Tryz.prog w base spare held fuel 28 cs = some y → ∃ x, RExN N (Lt w.heap.size) w x cs := by
  intro N
  induction N with
  | zero =>
    intro fuel hf cs y h
    obtain ⟨_, _, _, _, n, hn, _⟩ := trod_struct4N Tryz.underlying28 h
    omega
  | succ N ih =>
    intro fuel hf cs y h
    obtain ⟨y0, y1, y2, y3, n, hn, hl, h0, h1, h2, h3⟩ := trod_struct4N Tryz.underlying28 h
    rw [cellsExpr] at hl
    match cs, hl with
    | [c0, c1, c2, c3, c4, c5], _ =>
      simp only [cellsStr, cellsInt, cellsVal, cellsExprs, List.drop_zero, List.take_succ_cons, List.take_zero, List.drop_succ_cons] at h0 h1 h2 h3
      obtain ⟨a, e0, _, w0⟩ := DataW.trod_int Tryz.underlying3 h0
      obtain ⟨v, ev, hfv⟩ := valCells_of _ _ _ h1
      obtain ⟨s, e2, _, hs⟩ := DataW.trod_string Tryz.underlying9 h2
      obtain ⟨zs, hz⟩ := Sl.of_trodN (R := RExN N) (size := 6) Tryz.underlying26 cellsExpr (by omega) (fun f hlt cs y hh => ih f (by omega) cs y hh) h3
      injection e0 with e0
      injection ev with e1 ev; injection ev with e3 ev; injection ev with e4 _
      injection e2 with e2
      subst e0 e1 e2 e3 e4
      exact ⟨.mk a v s zs, c5, rfl, fit_of_wf w0, hfv, hs, hz⟩
set_option maxRecDepth 100000 in
theorem ex_of {r : Go.Reach} {b0 : Nat} {v : Value} {dd : DataW H} {p : List MemPlace} (hv : Value.okWide Tryz.prog w r b0 28 v) (h : DataW.Trod enc Tryz.prog w base spare held 28 v dd p) : ∃ (n : Nat) (x : Ex), IsEx n (Lt w.heap.size) w v x := by
  obtain ⟨cs, rfl, hsz⟩ := okWide_struct Tryz.underlying28 hv
  rw [cellsExpr] at hsz
  obtain ⟨fuel, hf⟩ := h
  obtain ⟨l⟩ := cs
  match l, hsz with
  | [c0, c1, c2, c3, c4, c5], _ =>
    obtain ⟨x, hx⟩ := exCells_of (fuel + 1) fuel (by omega) _ _ hf
    obtain ⟨lv, ec, h1, h2, h3, h4⟩ := hx
    simp only [Value.cells] at ec
    injection ec with e0 ec; injection ec with e1 ec; injection ec with e2 ec; injection ec with e3 ec; injection ec with e4 ec; injection ec with e5 _
    subst e0 e1 e2 e3 e4 e5
    exact ⟨fuel, x, _, rfl, h1, h2, h3, h4⟩
end
theorem laid_at {P : Program} {w : World} {n : String} {d : DataW Unit} : ∀ {l : List (String × DataW Unit)} {ps : List MemPlace}, DataW.LaidVars P w l ps → (n, d) ∈ l →
    ∃ g t cs fuel p, P.globalNamed n = some g ∧ (P.globals[g]?).map (·.type) = some t ∧ w.var? P n = some cs ∧ DataW.trod (fun _ => ()) P w 0 (fun _ => true) false fuel t cs.toList = some (d, p) := by
  intro l
  induction l with
  | nil => intro ps _ h; cases h
  | cons a l ih =>
    intro ps h hm
    obtain ⟨n', d'⟩ := a
    obtain ⟨g, t, cs, fuel, p, q, h1, h2, h3, h4, h5, _⟩ := h
    rcases List.mem_cons.1 hm with e | hm
    · injection e with e1 e2
      subst e1 e2
      exact ⟨g, t, cs, fuel, p, h1, h2, h3, h4⟩
    · exact ih h5 hm
theorem tab_same : (Rows.laid_internal_strconv_uint64pow10 : DataW Unit) = Lib.tabData .u64 Lib.pow10Tab := by rfl
theorem gPow : Tryz.prog.globalNamed "internal/strconv.uint64pow10" = some 3 := by kernel_rfl
theorem tPow : (Tryz.prog.globals[3]?).map (·.type) = some 225 := by kernel_rfl
theorem tab_of {P : Program} {w : World} {n : String} {g : Nat} {t e : TypeId} {m : Nat} {k : IntKind} {zs : List Int} {l : List (String × DataW Unit)} {ps : List MemPlace} (hl : DataW.LaidVars P w l ps) (hm : (n, Lib.tabData k zs) ∈ l)
    (hg : P.globalNamed n = some g) (hty : (P.globals[g]?).map (·.type) = some t) (ht : P.underlying t = some (.array m e)) (he : P.underlying e = some (.int k)) (hce : P.cellsOf e = 1) (hct : P.cellsOf t = m) : Lib.TabIs P w n k zs := by
  obtain ⟨g', t', cs, fuel, p, h1, h2, h3, h4⟩ := laid_at hl hm
  obtain rfl := Option.some.inj (hg.symm.trans h1)
  obtain rfl := Option.some.inj (hty.symm.trans h2)
  unfold Lib.TabIs
  rw [h3, ← Lib.cells_of_tab ht he hce hct h4]
theorem laid_list : Rows.exprValuesRow.laid = [("math/bits.deBruijn32tab", Rows.laid_math_bits_deBruijn32tab), ("math/bits.deBruijn64tab", Rows.laid_math_bits_deBruijn64tab), ("internal/strconv.uint64pow10", Rows.laid_internal_strconv_uint64pow10), ("strconv.ErrRange", Rows.laid_strconv_ErrRange), ("strconv.ErrSyntax", Rows.laid_strconv_ErrSyntax)] := rfl
theorem cellsU64 : Tryz.prog.cellsOf 175 = 1 := by kernel_rfl
theorem cellsTab : Tryz.prog.cellsOf 225 = 20 := by kernel_rfl
theorem uTab : Tryz.prog.underlying 225 = some (.array 20 175) := by kernel_rfl
theorem uU64 : Tryz.prog.underlying 175 = some (.int .u64) := by kernel_rfl
theorem met_plain {w : World} (h : laidMetH Tryz.prog Rows.exprValuesRow.laid w) : laidMet Tryz.prog Rows.exprValuesRow.laid w := h
theorem amb_of {w : World} (h : laidMetH Tryz.prog Rows.exprValuesRow.laid w) : Amb w := by
  obtain ⟨ps, hl, _⟩ := met_plain h
  rw [laid_list] at hl
  exact ⟨tab_of hl (by rw [← tab_same]; simp only [List.mem_cons, true_or, or_true]) gPow tPow uTab uU64 cellsU64 cellsTab⟩
end Go.Proofs.YtijmnenojbfdnaaGreatDoor
