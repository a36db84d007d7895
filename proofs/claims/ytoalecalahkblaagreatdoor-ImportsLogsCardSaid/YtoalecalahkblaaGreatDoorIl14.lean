/- Texts of this seat, merged. -/
import Derived.BigQuiet
import Derived.Test.YtoalecalahkblaaGreatDoorIl01
import Derived.Test.YtoalecalahkblaaGreatDoorIl02
import Derived.Test.YtoalecalahkblaaGreatDoorIl03
import Derived.Test.YtoalecalahkblaaGreatDoorIl04
import Derived.Test.YtoalecalahkblaaGreatDoorIl05
import Derived.Test.YtoalecalahkblaaGreatDoorIl06
import Derived.Test.YtoalecalahkblaaGreatDoorIl07
import Derived.Test.YtoalecalahkblaaGreatDoorIl08
import Derived.Test.YtoalecalahkblaaGreatDoorIl09
import Derived.Test.YtoalecalahkblaaGreatDoorIl10
import Derived.Test.YtoalecalahkblaaGreatDoorIl11
import Derived.Test.YtoalecalahkblaaGreatDoorIl12
import Derived.Test.YtoalecalahkblaaGreatDoorIl13
set_option linter.all false
set_option linter.all false
namespace Go.Proofs.YtoalecalahkblaaGreatDoor
open Go.RowKit
theorem enters_datum : ∀ args w, (callFunc 100 args).run Tryz.prog w = .ok (.enter 100 args) w := enters_of Tryz.func100 (by kernel_rfl) rfl
theorem enters_index : ∀ args w, (callFunc 97 args).run Tryz.prog w = .ok (.enter 97 args) w := enters_of Tryz.func97 (by kernel_rfl) rfl
theorem alV (W : World) : (Instr.alloc 121 true (.tuple #[])).run Tryz.prog W = .ok (.pointer (some ⟨W.heap.size, 0, none⟩)) (W.alloc (.cells #[.int .i64 0, .int .i64 0, .string ⟨#[]⟩] 121)) := by kernel_rfl
theorem wpM_moveV {P : Program} {o : Oper} {a : Act} {w : World} {K : Act → World → Prop} {Q : Exit → Act → World → Prop} (x : Operand) (V : Value) (ho : o.op = .move x) (hv : a.eval x = V) (h : K (a.put o.dst V) w) : o.wp P a w K Q := by
  unfold Oper.wp execOp
  simp only [ho, hv]
  exact h
theorem Blk.put6 {w : World} {g t : Nat} {a0 b0 c0 d0 e0 f0 : Value} (h : Blk w g t #[a0, b0, c0, d0, e0, f0]) (a b c d e f : Value) : Blk ((((((w.setCell ⟨g, 0, none⟩ a).setCell ⟨g, 1, none⟩ b).setCell ⟨g, 2, none⟩ c).setCell ⟨g, 3, none⟩ d).setCell ⟨g, 4, none⟩ e).setCell ⟨g, 5, none⟩ f) g t #[a, b, c, d, e, f] :=
  (((((h.set_ 0 a).set_ 1 b).set_ 2 c).set_ 3 d).set_ 4 e).set_ 5 f
theorem below6 {B g : Nat} {w0 w : World} (h : Below B w0 w) (hg : B ≤ g) (a b c d e f : Value) : Below B w0 ((((((w.setCell ⟨g, 0, none⟩ a).setCell ⟨g, 1, none⟩ b).setCell ⟨g, 2, none⟩ c).setCell ⟨g, 3, none⟩ d).setCell ⟨g, 4, none⟩ e).setCell ⟨g, 5, none⟩ f) :=
  (((((h.setCell (p := ⟨g, 0, none⟩) hg a).setCell (p := ⟨g, 1, none⟩) hg b).setCell (p := ⟨g, 2, none⟩) hg c).setCell (p := ⟨g, 3, none⟩) hg d).setCell (p := ⟨g, 4, none⟩) hg e).setCell (p := ⟨g, 5, none⟩) hg f
def EvV (G : Nat) (p : Ev × Int × Int) (ev : Value) (W : World) : Prop :=
  ∃ sa sb sc d t A n c, ev = .agg #[.string sa, .string sb, .string sc, .int .i64 d, .int .i64 t, .slice A n c] ∧
    (p.2.2 = 0 → p.1 = ⟨sa, sb, sc, d, t, p.1.data⟩ ∧ FitEv p.1 ∧ OwnFl W G (.slice A n c) p.1.data ∧ ∀ f ∈ p.1.data, FitFl f)
theorem EvV.now {G : Nat} {p : Ev × Int × Int} {ev : Value} {W W' : World} (h : EvV G p ev W) (hb : Below W.heap.size W W') : EvV G p ev W' := by
  obtain ⟨sa, sb, sc, d, t, A, n, c, h1, h2⟩ := h
  refine ⟨sa, sb, sc, d, t, A, n, c, h1, fun h0 => ?_⟩
  obtain ⟨a1, a2, a3, a4⟩ := h2 h0
  exact ⟨a1, a2, OwnW.now a3 hb, a4⟩
def RetEv (p : Ev × Int × Int) (w : World) (e : Ending) (w' : World) : Prop := ∃ ev, e = .returned (.tuple #[ev, .int .i64 p.2.1, .int .i64 p.2.2]) ∧ EvV w.heap.size p ev w' ∧ Below w.heap.size w w'
theorem ret_bad {w w' : World} {sa sb sc : ByteArray} {d t k c : Int} {A : Option Addr} {n q : Nat} {v : Value} (hv : v = .tuple #[.agg #[.string sa, .string sb, .string sc, .int .i64 d, .int .i64 t, .slice A n q], .int .i64 k, .int .i64 c]) (hc : c ≠ 0) (hb : Below w.heap.size w w') : RetEv (noEv, k, c) w (.returned v) w' :=
  ⟨_, by rw [hv], ⟨_, _, _, _, _, _, _, _, rfl, fun h => absurd h hc⟩, hb⟩
theorem own_low {w : World} {base : Nat} {v : Value} {L : List Fld} {G : Nat} (h : OwnFl w base v L) (hG : G ≤ base) : OwnFl w G v L := by
  rcases h.2 with h0 | ⟨g, cap, cur, h1, h2, h3⟩
  · exact ⟨h.1, .inl h0⟩
  · exact ⟨h.1, .inr ⟨g, cap, cur, h1, Nat.le_trans hG h2, h3⟩⟩
theorem own_btw {w : World} {base : Nat} {v : Value} {L : List Fld} {G : Nat} (h : OwnFl w base v L) (hG : G ≤ base) (hf : ∀ f ∈ L, FitFl f) : SlFl (Btw G w.heap.size) w v L :=
  Sl.of_own h rfl (fun g hg => ⟨Nat.le_trans hG (World.ownsRow.lt h g hg).1, (World.ownsRow.lt h g hg).2⟩) fun i x hx => ⟨fldC x, rfl, fun j u hu => by rw [flat_get (size := 4) (fun _ => rfl) L i j x hx (by have := (List.getElem?_eq_some_iff.1 hu).1; exact this)]; exact hu, rfl, hf x (List.mem_of_getElem? hx)⟩
theorem fld_pushed {w3 w5 w' : World} {E base : Nat} {acc : List Fld} {f : Fld} {a b c d e : Value} {A : Option Addr} {cv : Nat} {v' : Value} (hE : Blk w5 E 69 #[a, b, c, d, e, .slice A acc.length cv]) (hEb : E < base) (hb : Below E w3 w5)
    (hown : w'.ownsRow base 123 4 v' (acc.length + 1) (flat fldC acc ++ fldC f)) (hgr : w5.grownBy w' (Value.slice A acc.length cv).ownBlock) (hlt : ∀ g, (Value.slice A acc.length cv).ownBlock = some g → base ≤ g) :
    ∃ A' c', v' = .slice A' (acc ++ [f]).length c' ∧ Blk w' E 69 #[a, b, c, d, e, .slice A acc.length cv] ∧
      (Blk (w'.setCell ⟨E, 5, none⟩ v') E 69 #[a, b, c, d, e, v'] ∧ OwnFl (w'.setCell ⟨E, 5, none⟩ v') base v' (acc ++ [f]) ∧ Below E w3 (w'.setCell ⟨E, 5, none⟩ v') ∧ w5.heap.size ≤ (w'.setCell ⟨E, 5, none⟩ v').heap.size) := by
  have ho : OwnFl w' base v' (acc ++ [f]) := by
    unfold OwnFl OwnW
    rw [flat_append, List.length_append]
    simpa [flat] using hown
  obtain ⟨A', c', hv⟩ := ho.open_
  have hE' : Blk w' E 69 #[a, b, c, d, e, .slice A acc.length cv] := hE.grown hgr (fun e => by have := hlt _ e.symm; omega)
  refine ⟨A', c', hv, hE', hE'.set_ 5 v', ?_, (hb.grown hgr (Nat.le_of_lt hE.lt) (fun g e => by have := hlt g e; omega)).setCell (p := ⟨E, 5, none⟩) (Nat.le_refl E) v', by simpa using hgr.size⟩
  refine World.ownsRow.kept ho (Chg.grown (R := E) (Chg.refl.set (p := ⟨E, 5, none⟩) (.inr (show One E E from rfl)) v')) ?_
  cases e : v'.ownBlock with
  | none => exact .inl rfl
  | some g => exact .inr (fun h' => by injection h' with h'; have := (World.ownsRow.lt ho g e).1; omega)
theorem own_kept6 {w : World} {base g : Nat} {v : Value} {L : List Fld} (h : OwnFl w base v L) (hg : g < base) (a b c d e f : Value) : OwnFl ((((((w.setCell ⟨g, 0, none⟩ a).setCell ⟨g, 1, none⟩ b).setCell ⟨g, 2, none⟩ c).setCell ⟨g, 3, none⟩ d).setCell ⟨g, 4, none⟩ e).setCell ⟨g, 5, none⟩ f) base v L := by
  refine World.ownsRow.kept h (Chg.grown (R := g) ((((((Chg.refl.set (p := ⟨g, 0, none⟩) (.inr (show One g g from rfl)) a).set (p := ⟨g, 1, none⟩) (.inr (show One g g from rfl)) b).set (p := ⟨g, 2, none⟩) (.inr (show One g g from rfl)) c).set (p := ⟨g, 3, none⟩) (.inr (show One g g from rfl)) d).set (p := ⟨g, 4, none⟩) (.inr (show One g g from rfl)) e).set (p := ⟨g, 5, none⟩) (.inr (show One g g from rfl)) f)) ?_
  cases e : v.ownBlock with
  | none => exact .inl rfl
  | some g' => exact .inr (fun h' => by injection h' with h'; have := (World.ownsRow.lt h g' e).1; omega)
theorem bsFld (y : ByteArray) (v : Val) (W : World) : (Instr.buildSlice 67 1 #[(0, .agg #[.string y, .int .i64 v.kind, .int .i64 v.n, .string v.s])]).run Tryz.prog W = .ok (.slice (some ⟨W.heap.size, 0, none⟩) 1 1) (W.alloc (.cells #[.string y, .int .i64 v.kind, .int .i64 v.n, .string v.s] 123)) := by kernel_rfl
theorem appFld : AppInfo Tryz.prog 67 123 4 := AppInfo.mk' (z := .agg #[.string ⟨#[]⟩, .int .i64 0, .int .i64 0, .string ⟨#[]⟩]) (bytes := 48) Tryz.underlying67 (by kernel_rfl) (by decide) rfl (by decide)
def datF (b0 o0 rl cr d M kb ko kn ck iq : Nat) (sx : ByteArray) (kq z : Int) (v : Val) : Nat → (Nat → Value) → World → Prop
  | 0, τ, _ => τ 0 = .slice (some ⟨b0, o0, none⟩) rl cr
  | 1, τ, _ => τ 1 = .int .i64 (d : Int)
  | 2, τ, _ => τ 2 = .pointer (some ⟨b0, o0 + d, none⟩)
  | 3, τ, _ => τ 3 = .string sx
  | 4, τ, _ => τ 4 = .pointer (some ⟨M, 6, none⟩)
  | 5, τ, _ => τ 5 = .slice (some ⟨kb, ko, none⟩) kn ck
  | 6, τ, _ => τ 6 = .int .i64 (iq : Int)
  | 7, τ, _ => τ 7 = .pointer (some ⟨kb, ko + iq, none⟩)
  | 8, τ, _ => τ 8 = .int .i64 kq
  | 9, τ, _ => τ 9 = .tuple #[.agg #[.int .i64 v.kind, .int .i64 v.n, .string v.s], .int .i64 z]
  | 10, τ, _ => τ 10 = .tuple #[.agg #[.int .i64 v.kind, .int .i64 v.n, .string v.s], .int .i64 z]
  | 11, τ, _ => τ 11 = .agg #[.int .i64 v.kind, .int .i64 v.n, .string v.s]
  | 12, τ, _ => τ 12 = .int .i64 z
  | 13, τ, W => ∃ p : Nat, τ 13 = .pointer (some ⟨p, 0, none⟩) ∧ ∃ a b c, Blk W p 121 #[a, b, c]
  | 14, τ, W => ∃ p : Nat, τ 13 = .pointer (some ⟨p, 0, none⟩) ∧ Blk W p 121 #[.int .i64 v.kind, .int .i64 v.n, .string v.s]
  | 15, τ, _ => τ 15 = .int .i64 z
  | _, _, _ => True
theorem datF_keep {b0 o0 rl cr d M kb ko kn ck iq : Nat} {sx : ByteArray} {kq z : Int} {v : Val} {listed : Array Bool} {i : Nat} {τ τ' : Nat → Value} {W W' : World} (hup14 : Up listed 14 → Up listed 13) (hi : ¬ Up listed i) (ht : ∀ j, j < 16 → j ≠ i → τ' j = τ j) (hb : Below W.heap.size W W')
    (hf : ∀ j, j < 16 → Up listed j → datF b0 o0 rl cr d M kb ko kn ck iq sx kq z v j τ W) : ∀ j, j < 16 → j ≠ i → Up listed j → datF b0 o0 rl cr d M kb ko kn ck iq sx kq z v j τ' W' := by
  intro j hj hji hu
  match j, hj with
  | 0, _ =>
    exact (ht 0 (by decide) hji).trans (hf 0 (by decide) hu)
  | 1, _ =>
    exact (ht 1 (by decide) hji).trans (hf 1 (by decide) hu)
  | 2, _ =>
    exact (ht 2 (by decide) hji).trans (hf 2 (by decide) hu)
  | 3, _ =>
    exact (ht 3 (by decide) hji).trans (hf 3 (by decide) hu)
  | 4, _ =>
    exact (ht 4 (by decide) hji).trans (hf 4 (by decide) hu)
  | 5, _ =>
    exact (ht 5 (by decide) hji).trans (hf 5 (by decide) hu)
  | 6, _ =>
    exact (ht 6 (by decide) hji).trans (hf 6 (by decide) hu)
  | 7, _ =>
    exact (ht 7 (by decide) hji).trans (hf 7 (by decide) hu)
  | 8, _ =>
    exact (ht 8 (by decide) hji).trans (hf 8 (by decide) hu)
  | 9, _ =>
    exact (ht 9 (by decide) hji).trans (hf 9 (by decide) hu)
  | 10, _ =>
    exact (ht 10 (by decide) hji).trans (hf 10 (by decide) hu)
  | 11, _ =>
    exact (ht 11 (by decide) hji).trans (hf 11 (by decide) hu)
  | 12, _ =>
    exact (ht 12 (by decide) hji).trans (hf 12 (by decide) hu)
  | 13, _ =>
    obtain ⟨p, e, a, b, c, h⟩ := hf 13 (by decide) hu
    exact ⟨p, (ht 13 (by decide) hji).trans e, a, b, c, h.now hb⟩
  | 14, _ =>
    obtain ⟨p, e, h⟩ := hf 14 (by decide) hu
    exact ⟨p, (ht 13 (by decide) (fun e => hi (e ▸ hup14 hu))).trans e, h.now hb⟩
  | 15, _ =>
    exact (ht 15 (by decide) hji).trans (hf 15 (by decide) hu)
  | n + 16, hj => exact absurd hj (by omega)
def datF_mk (i : Nat) : Bool := i == 13
def lifF (w : World) (b0 o0 cr c : Nat) (r : List Bt) (x : Bt) : Nat → Value → World → Prop
  | 0, u, W => SlP (Lt W.heap.size) W u lifeW
  | 1, u, _ => u = .slice (some ⟨b0, o0, none⟩) r.length cr
  | 2, u, _ => u = .pointer (some ⟨w.heap.size, 3, none⟩)
  | 3, u, _ => u = .int .i64 (c : Int)
  | 4, u, _ => u = .pointer (some ⟨b0, o0 + c, none⟩)
  | 5, u, _ => u = .string (bsOf x)
  | 6, u, _ => u = .int .i64 (lifeI x)
  | 7, u, _ => u = .int .i64 (lifeI x)
  | _, _, _ => True
def pshF (E hb ho d nh ch n cv B T : Nat) (Ah Av : Option Addr) (y : ByteArray) (v : Val) (P9 : Value → World → Prop) (P11 : World → Prop) : Nat → Value → World → Prop
  | 0, u, _ => u = .pointer (some ⟨E, 5, none⟩)
  | 1, u, _ => u = .slice Av n cv
  | 2, u, _ => u = .slice Ah nh ch
  | 3, u, _ => u = .int .i64 (d : Int)
  | 4, u, _ => u = .pointer (some ⟨hb, ho + d, none⟩)
  | 5, u, _ => u = .string (y)
  | 6, u, _ => u = .agg #[.int .i64 v.kind, .int .i64 v.n, .string v.s]
  | 7, u, _ => u = .agg #[.string (y), .int .i64 v.kind, .int .i64 v.n, .string v.s]
  | 8, u, _ => u = .slice (some ⟨B, 0, none⟩) 1 1
  | 9, u, W => P9 u W
  | 10, u, _ => u = .pointer (some ⟨E, 5, none⟩)
  | 11, _, W => P11 W
  | _, _, _ => True
def pshFD (j k : Nat) : Bool := j == 9 && k == 11
set_option maxHeartbeats 8000000 in
set_option maxRecDepth 100000 in
theorem event_any (r hd : List Bt) (rv hv u : Value) (m : Mp) (w : World) (hr : SlP (Lt w.heap.size) w rv r) (hh : SlP (Lt w.heap.size) w hv hd) (h : IsMp (Lt w.heap.size) w u m) (hok : MpOk m) (hcol : ∀ k ∈ colsX m, k < (r.length : Int)) (hlen : hd.length = r.length)
    (hrl : ∀ c ∈ r, c.length ≤ 1000000) (hhl : ∀ c ∈ hd, c.length ≤ maxLen) (hnd : (m.data.map (cellAt hd)).Nodup) (ha : AmbP w) :
    Calls Tryz.prog 54 #[rv, hv, u] w (RetEv (evE r hd m) w) := by
  obtain ⟨i, hi⟩ : ∃ i : Nat, m.cas = (i : Int) := ⟨m.cas.toNat, by have := hok.cas; omega⟩
  obtain ⟨j, hj⟩ : ∃ j : Nat, m.act = (j : Int) := ⟨m.act.toNat, by have := hok.act; omega⟩
  obtain ⟨k, hk⟩ : ∃ k : Nat, m.time = (k : Int) := ⟨m.time.toNat, by have := hok.time; omega⟩
  have memF : ∀ x ∈ [m.cas, m.act, m.res, m.life, m.time], 0 ≤ x → x < (r.length : Int) := fun x hx h0 => hcol x (List.mem_append_left _ (List.mem_filter.2 ⟨hx, decide_eq_true h0⟩))
  have hil : i < r.length := by have := memF m.cas (by simp) hok.cas.1; omega
  have hjl : j < r.length := by have := memF m.act (by simp) hok.act.1; omega
  have hkl : k < r.length := by have := memF m.time (by simp) hok.time.1; omega
  have HRES := Lib.hid (memF m.res (by simp))
  have HLIF := Lib.hid (memF m.life (by simp))
  have HDC : Hid (∀ d ∈ m.data, d < (r.length : Int)) := Lib.hid fun d hd' => hcol d (List.mem_append_right _ hd')
  have HRR := Lib.hid hr
  have HHH := Lib.hid hh
  have HOK := Lib.hid hok
  have HRL := Lib.hid hrl
  have HHL := Lib.hid hhl
  have HND := Lib.hid hnd
  have HLN := Lib.hid hlen
  obtain ⟨Ar, cr, rfl, _, _, hr⟩ := hr.open_
  obtain ⟨Ah, ch, rfl, _, _, hh⟩ := hh.open_
  have hri : r[i]? = some r[i] := List.getElem?_eq_getElem hil
  have hrj : r[j]? = some r[j] := List.getElem?_eq_getElem hjl
  have hrk : r[k]? = some r[k] := List.getElem?_eq_getElem hkl
  obtain ⟨b0, o0, hA, hD0, hla, ca⟩ := hr.cellAt hri rfl
  obtain ⟨b1, o1, hA1, _, hlb, cb⟩ := hr.cellAt hrj rfl
  obtain ⟨b2, o2, hA2, _, hlt, ct⟩ := hr.cellAt hrk rfl
  subst hA
  injection hA1 with hA1
  injection hA1 with e1 e2 _
  subst e1 e2
  injection hA2 with hA2
  injection hA2 with e1 e2 _
  subst e1 e2
  have hka := cellAt_of hri
  have hkb := cellAt_of hrj
  have hkt := cellAt_of hrk
  have htl : (r[k]).length ≤ 1000000 := hrl _ (List.getElem_mem hkl)
  generalize r[i] = a at *
  generalize r[j] = b at *
  generalize r[k] = t at *
  obtain ⟨qa, hqa⟩ : ∃ qa, isNameB (bsOf a) = qa := ⟨_, rfl⟩
  obtain ⟨qb, hqb⟩ : ∃ qb, isNameB (bsOf b) = qb := ⟨_, rfl⟩
  have HIA : Hid (∀ W, Calls Tryz.prog 76 #[.string (bsOf a)] W fun e w' => e = .returned (.bool qa) ∧ W = w') := fun W => by have := isName_any (bsOf a) W (by rw [bs_size]; exact hla); rwa [hqa] at this
  have HIB : Hid (∀ W, Calls Tryz.prog 76 #[.string (bsOf b)] W fun e w' => e = .returned (.bool qb) ∧ W = w') := fun W => by have := isName_any (bsOf b) W (by rw [bs_size]; exact hlb); rwa [hqb] at this
  have HE : Hid (evE r hd m = if qa = false then (noEv, (i : Int), 8) else if qb = false then (noEv, (j : Int), 8) else evR r hd m) := by
    show _ = _
    unfold evE
    rw [hi, hj, hka, hkb, hqa, hqb]
  have HSA : Hid (qa = true → (bsOf a).size ≤ 40) := Lib.hid fun h => isName_le (hqa.trans h)
  have HSB : Hid (qb = true → (bsOf b).size ≤ 40) := Lib.hid fun h => isName_le (hqb.trans h)
  obtain ⟨pn, hpn⟩ : ∃ pn, natE t = pn := ⟨_, rfl⟩
  have HN : Hid (∀ W, AmbP W → Calls Tryz.prog 99 #[.string (bsOf t)] W (RetNat pn W)) := fun W hW => by
    have := natural_any (bsOf t) W (by rw [bs_size]; exact htl) hW
    rwa [show (bsOf t).data.toList = t from rfl, hpn] at this
  have HNF : Hid (0 ≤ pn.1 ∧ pn.1 ≤ 1099511627776) := by rw [← hpn]; exact natE_fit t
  have HTE : Hid (∀ res life, evT r hd m res life = if pn.2 = 0 then evEnd r m res life pn.1 (fldsD r hd [] (m.data.zip m.kinds)) else (noEv, (k : Int), pn.2)) := Lib.hid fun res life => by
    unfold evT
    rw [hk, hkt, hpn]
  have HEND : Hid (∀ res life n d, evEnd r m res life n d = if d.2.2 = 0 then (⟨bsOf a, bsOf b, bsOf res, life, n, sortS nlt d.1⟩, 0, 0) else (noEv, d.2.1, d.2.2)) := Lib.hid fun res life n d => by
    unfold evEnd
    rw [hi, hj, hka, hkb]
  have HAM := Lib.hid ha
  have HD0 : Hid (b0 < w.heap.size) := hD0
  obtain ⟨dv, kv, rfl, hfm, hd', hk'⟩ := h
  have HMD := Lib.hid hd'
  have HMK := Lib.hid hk'
  obtain ⟨Ad, cd, rfl, _, _, hd'⟩ := hd'.open_
  obtain ⟨Ak, ck, rfl, _, _, hk'⟩ := hk'.open_
  unfold mpV
  rw [hi, hj, hk]
  obtain ⟨z, hz⟩ : ∃ z, (m.sep.toNat : Int) = z := ⟨_, rfl⟩
  rw [hz]
  obtain ⟨p, hp⟩ : ∃ p, evE r hd m = p := ⟨_, rfl⟩
  rw [hp] at HE ⊢
  generalize bsOf a = sa at *
  generalize bsOf b = sb at *
  generalize bsOf t = st at *
  obtain ⟨pt, pf⟩ := pn
  dsimp only at HN HNF HTE
  clear hfm hd' hk' hz hi hj hk hr hri hrj hrk hqa hqb hpn htl ha hla hlb hlt hD0 hrl hhl hnd hlen hh hka hkb hkt hcol memF hok hp
  -- the boxes
  have hb1 := bone w (.cells #[.int .i64 (i : Int), .int .i64 (j : Int), .int .i64 m.res, .int .i64 m.life, .int .i64 (k : Int), .slice Ad m.data.length cd, .slice Ak m.kinds.length ck, .int .u8 z] 33)
  have hB1 := Blk.new w 33 #[.int .i64 (i : Int), .int .i64 (j : Int), .int .i64 m.res, .int .i64 m.life, .int .i64 (k : Int), .slice Ad m.data.length cd, .slice Ak m.kinds.length ck, .int .u8 z]
  have hs1 : (w.alloc (.cells #[.int .i64 (i : Int), .int .i64 (j : Int), .int .i64 m.res, .int .i64 m.life, .int .i64 (k : Int), .slice Ad m.data.length cd, .slice Ak m.kinds.length ck, .int .u8 z] 33)).heap.size = w.heap.size + 1 := by simp
  obtain ⟨w1, hw1⟩ : ∃ w1, w.alloc (.cells #[.int .i64 (i : Int), .int .i64 (j : Int), .int .i64 m.res, .int .i64 m.life, .int .i64 (k : Int), .slice Ad m.data.length cd, .slice Ak m.kinds.length ck, .int .u8 z] 33) = w1 := ⟨_, rfl⟩
  rw [hw1] at hb1 hB1 hs1
  have hb2 := bone w1 (.cells ev0C 69)
  have hB2 := Blk.new w1 69 ev0C
  have hs2 : (w1.alloc (.cells ev0C 69)).heap.size = w.heap.size + 2 := by simp [hs1]
  rw [hs1] at hB2
  obtain ⟨w2, hw2⟩ : ∃ w2, w1.alloc (.cells ev0C 69) = w2 := ⟨_, rfl⟩
  rw [hw2] at hB2 hs2 hb2
  have HW : Hid ((w.alloc (.cells #[.int .i64 (i : Int), .int .i64 (j : Int), .int .i64 m.res, .int .i64 m.life, .int .i64 (k : Int), .slice Ad m.data.length cd, .slice Ak m.kinds.length ck, .int .u8 z] 33)).alloc (.cells ev0C 69) = w2) := by show _ = _; rw [hw1, hw2]
  have HM2 := Lib.hid (hB1.now hb2)
  have HR2 := Lib.hid hB2
  have HBW2 := Lib.hid (bthen hb1 hb2)
  have HS2 := Lib.hid hs2
  clear hb1 hB1 hs1 hw1 hb2 hB2 hs2 hw2
  go_enter Tryz.func54, Tryz.ntmps54
  go_upto_region 1 with fail
  rw [HW.out]
  clear HW
  have HBA := Lib.hid (bone w2 (.cells ev0C 69))
  obtain ⟨c0, c1, c2, c3, c4, c5, c6, c7⟩ := HM2.out.c8m
  obtain ⟨d0, d1, d2, d3, d4, d5, d6, d7⟩ := (HM2.out.now HBA.out).c8m
  have x0 := (HBW2.out.cell (p := ⟨b0, o0 + i, none⟩) HD0.out).trans ca
  have x1 := (HBW2.out.cell (p := ⟨b0, o0 + j, none⟩) HD0.out).trans cb
  have hbl : b0 < w2.heap.size := by have := HD0.out; have := HBW2.out.size; omega
  have y0 := (HBA.out.cell (p := ⟨b0, o0 + i, none⟩) hbl).trans x0
  have y1 := (HBA.out.cell (p := ⟨b0, o0 + j, none⟩) hbl).trans x1
  have ii0 : (0 : Int) ≤ (i : Int) := by omega
  have ii1 : (i : Int) < (r.length : Int) := by omega
  have jj0 : (0 : Int) ≤ (j : Int) := by omega
  have jj1 : (j : Int) < (r.length : Int) := by omega
  unfold ev0C at d0 d1 d2 d3 d4 d5 d6 d7 y0 y1
  clear hbl
  go_region
  have HB3 : Hid (Below w2.heap.size w2 (w2.alloc (.cells #[.string sa, .string sb, .string ⟨#[]⟩, .int .i64 5, .int .i64 0, .slice none 0 0] 69)).drew) := (bone w2 _).drew
  have HE3 : Hid (Blk (w2.alloc (.cells #[.string sa, .string sb, .string ⟨#[]⟩, .int .i64 5, .int .i64 0, .slice none 0 0] 69)).drew w2.heap.size 69 #[.string sa, .string sb, .string ⟨#[]⟩, .int .i64 5, .int .i64 0, .slice none 0 0]) := (Blk.new w2 _ _).drew
  obtain ⟨w3, hw3⟩ : ∃ w3, (w2.alloc (.cells #[.string sa, .string sb, .string ⟨#[]⟩, .int .i64 5, .int .i64 0, .slice none 0 0] 69)).drew = w3 := ⟨_, rfl⟩
  rw [hw3] at HB3 HE3 ⊢
  have HM3 := Lib.hid (HM2.out.now HB3.out)
  have HR3 := Lib.hid (HR2.out.now HB3.out)
  have HBW3 := Lib.hid (bthen HBW2.out HB3.out)
  obtain ⟨E, hE⟩ : ∃ E, w2.heap.size = E := ⟨_, rfl⟩
  rw [hE] at HE3 HS2 HB3 ⊢
  have HEW : Hid (w.heap.size + 1 < E) := by have := HS2.out; show _ < _; omega
  clear c0 c1 c2 c3 c4 c5 c6 c7 d0 d1 d2 d3 d4 d5 d6 d7 x0 x1 y0 y1 hw3 hE HBA HM2 HR2 HBW2 HS2 HB3
  have HMX : Hid (∀ W, Below E w3 W → Blk W w.heap.size 33 #[.int .i64 (i : Int), .int .i64 (j : Int), .int .i64 m.res, .int .i64 m.life, .int .i64 (k : Int), .slice Ad m.data.length cd, .slice Ak m.kinds.length ck, .int .u8 z]) := Lib.hid fun W hW => HM3.out.below hW (by have := HEW.out; omega)
  have HRX : Hid (∀ W, Below E w3 W → Blk W (w.heap.size + 1) 69 ev0C) := Lib.hid fun W hW => HR3.out.below hW HEW.out
  have HBX : Hid (∀ W, Below E w3 W → Below w.heap.size w W) := Lib.hid fun W hW => HBW3.out.trans (hW.mono (by have := HEW.out; omega))
  clear HM3 HR3 HBW3
  obtain ⟨c0, c1, c2, c3, c4, c5, c6, c7⟩ := (HMX.out w3 (Below.refl _ _)).c8m
  obtain ⟨e0, e1, e2, e3, e4, e5⟩ := HE3.out.c6
  obtain ⟨r0, r1, r2, r3, r4, r5⟩ := (HRX.out w3 (Below.refl _ _)).c6
  have f0 := (HRX.out w3 (Below.refl _ _)).frozen 0
  have f1 := (HRX.out w3 (Below.refl _ _)).frozen 1
  have f2 := (HRX.out w3 (Below.refl _ _)).frozen 2
  have f3 := (HRX.out w3 (Below.refl _ _)).frozen 3
  have f4 := (HRX.out w3 (Below.refl _ _)).frozen 4
  have f5 := (HRX.out w3 (Below.refl _ _)).frozen 5
  go_wp2_with fail
  (with_reducible refine (HIA.out _).mono ?_)
  rintro _ wq ⟨rfl, rfl⟩
  cases qa
  · have HPE : Hid (p = (noEv, (i : Int), 8)) := by show _ = _; rw [HE.out]; rfl
    have hcode : (8 : Int) ≠ 0 := by decide
    go_wp2_with fail
    go_region
    go_wp2_with fail
    have hz := (HRX.out w3 (Below.refl _ _)).put6 (.string sa) (.string sb) (.string ⟨#[]⟩) (.int .i64 5) (.int .i64 0) (.slice none 0 0)
    have hbz := below6 (HBX.out w3 (Below.refl _ _)) (show w.heap.size ≤ w.heap.size + 1 by omega) (.string sa) (.string sb) (.string ⟨#[]⟩) (.int .i64 5) (.int .i64 0) (.slice none 0 0)
    have hz := hz.drew
    have hbz := hbz.drew
    obtain ⟨wz, hwz⟩ : ∃ wz, (((((((w3.setCell ⟨w.heap.size + 1, 0, none⟩ (.string sa)).setCell ⟨w.heap.size + 1, 1, none⟩ (.string sb)).setCell ⟨w.heap.size + 1, 2, none⟩ (.string ⟨#[]⟩)).setCell ⟨w.heap.size + 1, 3, none⟩ (.int .i64 5)).setCell ⟨w.heap.size + 1, 4, none⟩ (.int .i64 0)).setCell ⟨w.heap.size + 1, 5, none⟩ (.slice none 0 0))).drew = wz := ⟨_, rfl⟩
    rw [hwz] at hz hbz ⊢
    clear hwz
    obtain ⟨q0, q1, q2, q3, q4, q5⟩ := hz.c6
    refine bodyPost_ret (v := .tuple #[.agg #[.string sa, .string sb, .string ⟨#[]⟩, .int .i64 5, .int .i64 0, .slice none 0 0], .int .i64 (i : Int), .int .i64 8]) (by simp [results, Tryz.results54, go_sem, q0, q1, q2, q3, q4, q5]) rfl ?_
    show RetEv _ _ _ _
    rw [HPE.out]
    exact ret_bad rfl hcode hbz
  go_wp2_with fail
  (with_reducible refine (HIB.out _).mono ?_)
  rintro _ wq ⟨rfl, rfl⟩
  cases qb
  · have HPE : Hid (p = (noEv, (j : Int), 8)) := by show _ = _; rw [HE.out]; rfl
    have hcode : (8 : Int) ≠ 0 := by decide
    go_wp2_with fail
    go_region
    go_wp2_with fail
    have hz := (HRX.out w3 (Below.refl _ _)).put6 (.string sa) (.string sb) (.string ⟨#[]⟩) (.int .i64 5) (.int .i64 0) (.slice none 0 0)
    have hbz := below6 (HBX.out w3 (Below.refl _ _)) (show w.heap.size ≤ w.heap.size + 1 by omega) (.string sa) (.string sb) (.string ⟨#[]⟩) (.int .i64 5) (.int .i64 0) (.slice none 0 0)
    have hz := hz.drew
    have hbz := hbz.drew
    obtain ⟨wz, hwz⟩ : ∃ wz, (((((((w3.setCell ⟨w.heap.size + 1, 0, none⟩ (.string sa)).setCell ⟨w.heap.size + 1, 1, none⟩ (.string sb)).setCell ⟨w.heap.size + 1, 2, none⟩ (.string ⟨#[]⟩)).setCell ⟨w.heap.size + 1, 3, none⟩ (.int .i64 5)).setCell ⟨w.heap.size + 1, 4, none⟩ (.int .i64 0)).setCell ⟨w.heap.size + 1, 5, none⟩ (.slice none 0 0))).drew = wz := ⟨_, rfl⟩
    rw [hwz] at hz hbz ⊢
    clear hwz
    obtain ⟨q0, q1, q2, q3, q4, q5⟩ := hz.c6
    refine bodyPost_ret (v := .tuple #[.agg #[.string sa, .string sb, .string ⟨#[]⟩, .int .i64 5, .int .i64 0, .slice none 0 0], .int .i64 (j : Int), .int .i64 8]) (by simp [results, Tryz.results54, go_sem, q0, q1, q2, q3, q4, q5]) rfl ?_
    show RetEv _ _ _ _
    rw [HPE.out]
    exact ret_bad rfl hcode hbz
  have HPR : Hid (p = evR r hd m) := by show _ = _; rw [HE.out]; rfl
  have HSA2 : Hid (sa.size ≤ 40) := Lib.hid (by first | exact HSA.out rfl | exact HSA.out trivial | exact HSA.out)
  have HSB2 : Hid (sb.size ≤ 40) := Lib.hid (by first | exact HSB.out rfl | exact HSB.out trivial | exact HSB.out)
  clear HE HIA HIB HSA HSB
  obtain ⟨qr, hqr⟩ : ∃ qr, decide (0 ≤ m.res) = qr := ⟨_, rfl⟩
  go_upto_if 46 with fail
  have HQR := Lib.hid hqr
  clear hqr
  go_cut [] from 47 to 64 (fun W => ∃ ρ : Bt, Hid (p = evL r hd m ρ) ∧ Hid (ρ.length ≤ 40) ∧ Hid (Blk W E 69 #[.string sa, .string sb, .string (bsOf ρ), .int .i64 5, .int .i64 0, .slice none 0 0]) ∧ Hid (Below E w3 W))
  case first =>
    cases qr with
    | false =>
      go_wp2_with fail
      go_meet
      refine ⟨[], Lib.hid ?_, Lib.hid (Nat.zero_le _), HE3, Lib.hid (Below.refl _ _)⟩
      rw [HPR.out]
      unfold evR
      rw [if_pos (by have := of_decide_eq_false HQR.out; omega)]
    | true =>
      obtain ⟨c, hc⟩ : ∃ c : Nat, m.res = (c : Int) := ⟨m.res.toNat, by have := of_decide_eq_true HQR.out; omega⟩
      have hcl : c < r.length := by have := HRES.out (of_decide_eq_true HQR.out); omega
      have hrc : r[c]? = some r[c] := List.getElem?_eq_getElem hcl
      obtain ⟨bx, ox, hA, _, hlx, cx⟩ := SlP.cellAt HRR.out hrc rfl
      injection hA with hA
      injection hA with e1' e2'
      subst e1' e2'
      have hkc := cellAt_of hrc
      have hxl : (r[c]).length ≤ maxLen := hlx
      generalize r[c] = x at *
      have cx3 := ((HBX.out w3 (Below.refl _ _)).cell (p := ⟨b0, o0 + c, none⟩) HD0.out).trans cx
      have HEX : Hid (evR r hd m = if x ≠ [] ∧ isNameB (bsOf x) = false then (noEv, (c : Int), 8) else evL r hd m x) := by
        show _ = _
        unfold evR
        rw [if_neg (by omega), hc, hkc]
      rw [hc] at c2
      have HCC := Lib.hid hc
      have ci0 : (0 : Int) ≤ (c : Int) := by omega
      have ci1 : (c : Int) < (r.length : Int) := by omega
      have g2 := HE3.out.frozen 2
      have HIX : Hid (∀ W, Calls Tryz.prog 76 #[.string (bsOf x)] W fun e w' => e = .returned (.bool (isNameB (bsOf x))) ∧ W = w') := fun W => isName_any (bsOf x) W (by rw [bs_size]; exact hxl)
      have HLX : Hid (isNameB (bsOf x) = true → x.length ≤ 40) := Lib.hid fun h => by have := isName_le h; rwa [bs_size] at this
      clear hc hrc cx hlx hxl hkc
      have hE4 : Blk (w3.setCell ⟨E, 2, none⟩ (.string (bsOf x))) E 69 #[.string sa, .string sb, .string (bsOf x), .int .i64 5, .int .i64 0, .slice none 0 0] := HE3.out.set_ 2 (.string (bsOf x))
      have hB4 := (Below.refl E w3).setCell (p := ⟨E, 2, none⟩) (Nat.le_refl E) (.string (bsOf x))
      go_upto_region 8 with fail
      obtain ⟨w4, hw4⟩ : ∃ w4, w3.setCell ⟨E, 2, none⟩ (.string (bsOf x)) = w4 := ⟨_, rfl⟩
      rw [hw4] at hE4 hB4 ⊢
      clear hw4 cx3 g2 c0 c1 c2 c3 c4 c5 c6 c7 e0 e1 e2 e3 e4 e5 r0 r1 r2 r3 r4 r5 f0 f1 f2 f3 f4 f5
      have HE4 := Lib.hid hE4
      have HB4 := Lib.hid hB4
      clear hE4 hB4
      obtain ⟨c0, c1, c2, c3, c4, c5, c6, c7⟩ := (HMX.out w4 HB4.out).c8m
      obtain ⟨e0, e1, e2, e3, e4, e5⟩ := HE4.out.c6
      obtain ⟨r0, r1, r2, r3, r4, r5⟩ := (HRX.out w4 HB4.out).c6
      have f0 := (HRX.out w4 HB4.out).frozen 0
      have f1 := (HRX.out w4 HB4.out).frozen 1
      have f2 := (HRX.out w4 HB4.out).frozen 2
      have f3 := (HRX.out w4 HB4.out).frozen 3
      have f4 := (HRX.out w4 HB4.out).frozen 4
      have f5 := (HRX.out w4 HB4.out).frozen 5
      rw [HCC.out] at c2
      by_cases hx0 : x = []
      · subst hx0
        have s1 : (bsOf []).toList.isEmpty = true := by decide +kernel
        have s2 : (bsOf []).toList = [] := by decide +kernel
        go_wp2_with fail
        go_meet
        exact ⟨[], Lib.hid (by rw [HPR.out, HEX.out, if_neg (by simp)]), Lib.hid (Nat.zero_le _), HE4, HB4⟩
      · have s1 : (bsOf x).toList.isEmpty = false := by
          rw [Lib.toList_data]
          show x.isEmpty = false
          cases x with
          | nil => exact absurd rfl hx0
          | cons a l => rfl
        have s2 : ((bsOf x).toList == []) = false := by
          rw [Lib.toList_data]
          show (x == []) = false
          rw [beq_eq_false_iff_ne]; exact hx0
        have s3 : (bsOf x).toList ≠ [] := by
          rw [Lib.toList_data]; exact hx0
        have HX0 := Lib.hid hx0
        clear hx0
        obtain ⟨qx, hqx⟩ : ∃ qx, isNameB (bsOf x) = qx := ⟨_, rfl⟩
        rw [hqx] at HEX HIX HLX
        clear hqx
        go_wp2_with fail
        (with_reducible refine (HIX.out _).mono ?_)
        rintro _ wq ⟨rfl, rfl⟩
        cases qx
        · have HPE : Hid (p = (noEv, (c : Int), 8)) := by show _ = _; rw [HPR.out, HEX.out, if_pos ⟨HX0.out, rfl⟩]
          have hcode : (8 : Int) ≠ 0 := by decide
          go_wp2_with fail
          go_region
          go_wp2_with fail
          have hz := (HRX.out w4 HB4.out).put6 (.string sa) (.string sb) (.string (bsOf x)) (.int .i64 5) (.int .i64 0) (.slice none 0 0)
          have hbz := below6 (HBX.out w4 HB4.out) (show w.heap.size ≤ w.heap.size + 1 by omega) (.string sa) (.string sb) (.string (bsOf x)) (.int .i64 5) (.int .i64 0) (.slice none 0 0)
          have hz := hz.drew
          have hbz := hbz.drew
          obtain ⟨wz, hwz⟩ : ∃ wz, (((((((w4.setCell ⟨w.heap.size + 1, 0, none⟩ (.string sa)).setCell ⟨w.heap.size + 1, 1, none⟩ (.string sb)).setCell ⟨w.heap.size + 1, 2, none⟩ (.string (bsOf x))).setCell ⟨w.heap.size + 1, 3, none⟩ (.int .i64 5)).setCell ⟨w.heap.size + 1, 4, none⟩ (.int .i64 0)).setCell ⟨w.heap.size + 1, 5, none⟩ (.slice none 0 0))).drew = wz := ⟨_, rfl⟩
          rw [hwz] at hz hbz ⊢
          clear hwz
          obtain ⟨q0, q1, q2, q3, q4, q5⟩ := hz.c6
          refine bodyPost_ret (v := .tuple #[.agg #[.string sa, .string sb, .string (bsOf x), .int .i64 5, .int .i64 0, .slice none 0 0], .int .i64 (c : Int), .int .i64 8]) (by simp [results, Tryz.results54, go_sem, q0, q1, q2, q3, q4, q5]) rfl ?_
          show RetEv _ _ _ _
          rw [HPE.out]
          exact ret_bad rfl hcode hbz
        · go_wp2_with fail
          go_meet
          exact ⟨x, Lib.hid (by rw [HPR.out, HEX.out, if_neg (by simp)]), Lib.hid (HLX.out (by simp)), HE4, HB4⟩
  case rest =>
  obtain ⟨ρ, HPL, HRO, HEc, HBc⟩ := hcut
  obtain ⟨w4, hw4⟩ : ∃ w4, wc = w4 := ⟨_, rfl⟩
  rw [hw4] at HEc HBc ⊢
  clear hw4 c0 c1 c2 c3 c4 c5 c6 c7 e0 e1 e2 e3 e4 e5 r0 r1 r2 r3 r4 r5 f0 f1 f2 f3 f4 f5 HPR HRES HQR HE3
  obtain ⟨c0, c1, c2, c3, c4, c5, c6, c7⟩ := (HMX.out w4 HBc.out).c8m
  obtain ⟨e0, e1, e2, e3, e4, e5⟩ := HEc.out.c6
  obtain ⟨r0, r1, r2, r3, r4, r5⟩ := (HRX.out w4 HBc.out).c6
  have f0 := (HRX.out w4 HBc.out).frozen 0
  have f1 := (HRX.out w4 HBc.out).frozen 1
  have f2 := (HRX.out w4 HBc.out).frozen 2
  have f3 := (HRX.out w4 HBc.out).frozen 3
  have f4 := (HRX.out w4 HBc.out).frozen 4
  have f5 := (HRX.out w4 HBc.out).frozen 5
  obtain ⟨ql, hql⟩ : ∃ ql, decide (0 ≤ m.life) = ql := ⟨_, rfl⟩
  go_upto_if 67 with fail
  have HQL := Lib.hid hql
  clear hql
  go_cut [10] from 68 to 82 (fun _ W => ∃ L : Int, Hid (p = evT r hd m ρ L) ∧ Hid (1 ≤ L ∧ L ≤ 6) ∧ Hid (Blk W E 69 #[.string sa, .string sb, .string (bsOf ρ), .int .i64 L, .int .i64 0, .slice none 0 0]) ∧ Hid (Below E w3 W))
  case first =>
    cases ql with
    | false =>
      go_wp2_with fail
      go_meet
      refine ⟨5, Lib.hid ?_, Lib.hid (by omega), HEc, HBc⟩
      rw [HPL.out]
      unfold evL
      rw [if_pos (by have := of_decide_eq_false HQL.out; omega)]
    | true =>
      obtain ⟨c, hc⟩ : ∃ c : Nat, m.life = (c : Int) := ⟨m.life.toNat, by have := of_decide_eq_true HQL.out; omega⟩
      have hcl : c < r.length := by have := HLIF.out (of_decide_eq_true HQL.out); omega
      have hrc : r[c]? = some r[c] := List.getElem?_eq_getElem hcl
      obtain ⟨bx, ox, hA, _, hlx, cx⟩ := SlP.cellAt HRR.out hrc rfl
      injection hA with hA
      injection hA with e1' e2'
      subst e1' e2'
      have hkc := cellAt_of hrc
      generalize r[c] = x at *
      have cx4 := ((HBX.out w4 HBc.out).cell (p := ⟨b0, o0 + c, none⟩) HD0.out).trans cx
      have HEX : Hid (evL r hd m ρ = if lifeI x < 0 then (noEv, (c : Int), 20) else evT r hd m ρ (1 + lifeI x)) := by
        show _ = _
        unfold evL
        rw [if_neg (by omega), hc, hkc]
      have HLI := Lib.hid (lifeI_lt x)
      have HCC := Lib.hid hc
      have ci0 : (0 : Int) ≤ (c : Int) := by omega
      have ci1 : (c : Int) < (r.length : Int) := by omega
      have HM4 := Lib.hid (HMX.out w4 HBc.out)
      have hb04 : b0 < w4.heap.size := by have := HD0.out; have := (HBX.out w4 HBc.out).size; omega
      clear hc hrc cx hlx hkc c0 c1 c2 c3 c4 c5 c6 c7 e0 e1 e2 e3 e4 e5 r0 r1 r2 r3 r4 r5 f0 f1 f2 f3 f4 f5
      go_upto_region 11 with fail
      go_cut [10] from 68 to 74 (fun v W => v = .int .i64 (lifeI x) ∧ Below w4.heap.size w4 W)
      case first =>
        clear HEc HBc HPL HEX HQL HRO HTE HEND
        rename_i J1 K1 hJ hK
        have HR0 : Hid (Below w4.heap.size w4 w4.drew) := Lib.hid (Below.refl _ _).drew
        refine wp_region_rel (by kernel_rfl) (by kernel_rfl) (by kernel_rfl) (fun W => Below w4.heap.size w4 W) (lifF w b0 o0 cr c r x) ?h0 ?hstep ?hend ?hall
        case hall => exact hall_of (by kernel_rfl)
        case h0 => exact HR0.out
        case hstep =>
          intro i o ho listed ac W hsh hi hk hR hM
          obtain ⟨m0, m1, m2, m3, m4, m5, m6, m7⟩ := (HM4.out.now hR).c8m
          rw [HCC.out] at m3
          have cxx := (hR.cell (p := ⟨b0, o0 + c, none⟩) hb04).trans cx4
          match i, ho with
          | 0, ho =>
            injection ho with ho
            subst ho
            refine wpM_callF (f := 98) enters_words _ _ #[] _ rfl rfl (by simp only [List.map_toArray, List.map_cons, List.map_nil]) ((words_any W).mono ?_)
            rintro e W' ⟨v, rfl, hs, hb⟩
            refine ⟨_, rfl, _, rfl, (hR.trans (hb.mono hR.size)), fun u hu => (by rw [hu (by simp)]; exact hs), fun j hj hji hu u h => ?_⟩
            match j, hj, hji, h with
            | 0, _, hji, _ => exact absurd rfl hji
            | 1, _, _, h => exact h
            | 2, _, _, h => exact h
            | 3, _, _, h => exact h
            | 4, _, _, h => exact h
            | 5, _, _, h => exact h
            | 6, _, _, h => exact h
            | 7, _, _, h => exact h
            | n + 8, hj, _, _ => exact absurd hj (by simp)
          | 1, ho =>
            injection ho with ho
            subst ho
            have e0 : ac.eval (.tmp 0) = .slice (some ⟨b0, o0, none⟩) r.length cr := hk.same (s := 0) (by kernel_rfl)
            exact wpM_run (.slice (some ⟨b0, o0, none⟩) r.length cr) W (by simp only [execOp, e0]; simp [go_sem]) ⟨_, rfl, hR, fun u hu => hu (by simp), fun j _ _ _ u h => h⟩
          | 2, ho =>
            injection ho with ho
            subst ho
            have e0 : ac.eval (.tmp 5) = .pointer (some ⟨w.heap.size, 0, none⟩) := hk.same (s := 5) (by kernel_rfl)
            exact wpM_run (.pointer (some ⟨w.heap.size, 3, none⟩)) W (by simp only [execOp, e0]; simp [go_sem]) ⟨_, rfl, hR, fun u hu => hu (by simp), fun j _ _ _ u h => h⟩
          | 3, ho =>
            injection ho with ho
            subst ho
            have e0 : ac.eval (.tmp 70) = .pointer (some ⟨w.heap.size, 3, none⟩) := hM 2 (by decide) (ready_up hi (by kernel_rfl))
            exact wpM_run (.int .i64 (c : Int)) W (by simp only [execOp, e0]; simp [go_sem, m3]) ⟨_, rfl, hR, fun u hu => hu (by simp), fun j _ _ _ u h => h⟩
          | 4, ho =>
            injection ho with ho
            subst ho
            have e0 : ac.eval (.tmp 69) = .slice (some ⟨b0, o0, none⟩) r.length cr := hM 1 (by decide) (ready_up hi (by kernel_rfl))
            have e1 : ac.eval (.tmp 71) = .int .i64 (c : Int) := hM 3 (by decide) (ready_up hi (by kernel_rfl))
            exact wpM_run (.pointer (some ⟨b0, o0 + c, none⟩)) W (by simp only [execOp, e0, e1]; simp [go_sem, ci0, ci1]) ⟨_, rfl, hR, fun u hu => hu (by simp), fun j _ _ _ u h => h⟩
          | 5, ho =>
            injection ho with ho
            subst ho
            have e0 : ac.eval (.tmp 72) = .pointer (some ⟨b0, o0 + c, none⟩) := hM 4 (by decide) (ready_up hi (by kernel_rfl))
            exact wpM_run (.string (bsOf x)) W (by simp only [execOp, e0]; simp [go_sem, cxx]) ⟨_, rfl, hR, fun u hu => hu (by simp), fun j _ _ _ u h => h⟩
          | 6, ho =>
            injection ho with ho
            subst ho
            have hs68 := hM 0 (by decide) (ready_up hi (by kernel_rfl))
            have e0 : ac.eval (.tmp 68) = ac.eval (.tmp 68) := rfl
            have e1 : ac.eval (.tmp 73) = .string (bsOf x) := hM 5 (by decide) (ready_up hi (by kernel_rfl))
            refine wpM_callF (f := 97) enters_index _ _ #[ac.eval (.tmp 68), .string (bsOf x)] _ rfl rfl (by simp only [List.map_toArray, List.map_cons, List.map_nil, e1]) ((index_life (ac.eval (.tmp 68)) x W hs68).mono ?_)
            rintro e W' ⟨rfl, rfl⟩
            have hb := Below.refl W.heap.size W
            refine ⟨_, rfl, _, rfl, (hR.trans (hb.mono hR.size)), fun u hu => hu (by simp), fun j hj hji hu u h => ?_⟩
            match j, hj, hji, h with
            | 0, _, _, h => exact (h.now hb)
            | 1, _, _, h => exact h
            | 2, _, _, h => exact h
            | 3, _, _, h => exact h
            | 4, _, _, h => exact h
            | 5, _, _, h => exact h
            | 6, _, hji, _ => exact absurd rfl hji
            | 7, _, _, h => exact h
            | n + 8, hj, _, _ => exact absurd hj (by simp)
          | 7, ho =>
            injection ho with ho
            subst ho
            have e0 : ac.eval (.tmp 74) = .int .i64 (lifeI x) := hM 6 (by decide) (ready_up hi (by kernel_rfl))
            exact wpM_run (.int .i64 (lifeI x)) W (by simp only [execOp, e0]; simp [go_sem]) ⟨_, rfl, hR, fun u hu => hu (by simp), fun j _ _ _ u h => h⟩
          | n + 8, ho => simp at ho
        case hend =>
          intro ac W hk hR hM
          have x68 := hM 0 (by decide)
          have x69 := hM 1 (by decide)
          have x70 := hM 2 (by decide)
          have x71 := hM 3 (by decide)
          have x72 := hM 4 (by decide)
          have x73 := hM 5 (by decide)
          have x74 := hM 6 (by decide)
          have x10 := hM 7 (by decide)
          have y10 : Act.slot ac 10 = .int .i64 (lifeI x) := x10
          refine hK _ _ ?_
          rw [hk.form (by kernel_rfl)]
          simp only [putsAll, Option.getD_some, Act.put, List.setIfInBounds_toArray, List.set_cons_zero, List.set_cons_succ, y10]
          go_meet
          exact ⟨rfl, hR⟩
      case rest =>
      obtain ⟨rfl, hb5⟩ := hcut
      obtain ⟨w5, hw5⟩ : ∃ w5, wc = w5 := ⟨_, rfl⟩
      rw [hw5] at hb5 ⊢
      have HE5 := Lib.hid (HEc.out.now hb5)
      have HB5 : Hid (Below E w3 w5) := Lib.hid (HBc.out.trans (hb5.mono (by have := HEc.out.lt; omega)))
      clear hw5 hb5 HM4 cx4 hb04
      obtain ⟨c0, c1, c2, c3, c4, c5, c6, c7⟩ := (HMX.out w5 HB5.out).c8m
      obtain ⟨e0, e1, e2, e3, e4, e5⟩ := HE5.out.c6
      obtain ⟨r0, r1, r2, r3, r4, r5⟩ := (HRX.out w5 HB5.out).c6
      have f0 := (HRX.out w5 HB5.out).frozen 0
      have f1 := (HRX.out w5 HB5.out).frozen 1
      have f2 := (HRX.out w5 HB5.out).frozen 2
      have f3 := (HRX.out w5 HB5.out).frozen 3
      have f4 := (HRX.out w5 HB5.out).frozen 4
      have f5 := (HRX.out w5 HB5.out).frozen 5
      rw [HCC.out] at c3
      obtain ⟨q, hq⟩ : ∃ q, lifeI x = q := ⟨_, rfl⟩
      rw [hq] at HEX HLI ⊢
      clear hq
      have g3 := HE5.out.frozen 3
      by_cases hq0 : q < 0
      · have HPE : Hid (p = (noEv, (c : Int), 20)) := by show _ = _; rw [HPL.out, HEX.out, if_pos hq0]
        have hcode : (20 : Int) ≠ 0 := by decide
        go_wp2_with fail
        go_region
        go_wp2_with fail
        have hz := (HRX.out w5 HB5.out).put6 (.string sa) (.string sb) (.string (bsOf ρ)) (.int .i64 5) (.int .i64 0) (.slice none 0 0)
        have hbz := below6 (HBX.out w5 HB5.out) (show w.heap.size ≤ w.heap.size + 1 by omega) (.string sa) (.string sb) (.string (bsOf ρ)) (.int .i64 5) (.int .i64 0) (.slice none 0 0)
        have hz := hz.drew
        have hbz := hbz.drew
        obtain ⟨wz, hwz⟩ : ∃ wz, (((((((w5.setCell ⟨w.heap.size + 1, 0, none⟩ (.string sa)).setCell ⟨w.heap.size + 1, 1, none⟩ (.string sb)).setCell ⟨w.heap.size + 1, 2, none⟩ (.string (bsOf ρ))).setCell ⟨w.heap.size + 1, 3, none⟩ (.int .i64 5)).setCell ⟨w.heap.size + 1, 4, none⟩ (.int .i64 0)).setCell ⟨w.heap.size + 1, 5, none⟩ (.slice none 0 0))).drew = wz := ⟨_, rfl⟩
        rw [hwz] at hz hbz ⊢
        clear hwz
        obtain ⟨q0, q1, q2, q3, q4, q5⟩ := hz.c6
        refine bodyPost_ret (v := .tuple #[.agg #[.string sa, .string sb, .string (bsOf ρ), .int .i64 5, .int .i64 0, .slice none 0 0], .int .i64 (c : Int), .int .i64 20]) (by simp [results, Tryz.results54, go_sem, q0, q1, q2, q3, q4, q5]) rfl ?_
        show RetEv _ _ _ _
        rw [HPE.out]
        exact ret_bad rfl hcode hbz
      · have hw : IntKind.i64.wrap (1 + q) = 1 + q := i64wrap ⟨by have := HLI.out; omega, by have := HLI.out; omega⟩
        have hE6 := HE5.out.set_ 3 (.int .i64 (1 + q))
        have hB6 := HB5.out.setCell (p := ⟨E, 3, none⟩) (Nat.le_refl E) (.int .i64 (1 + q))
        go_wp2_with fail
        go_meet
        exact ⟨1 + q, Lib.hid (by rw [HPL.out, HEX.out, if_neg (by omega)]), Lib.hid (by have := HLI.out; omega), Lib.hid hE6, Lib.hid hB6⟩
  case rest =>
  obtain ⟨L, HPT, HLL, HEd, HBd⟩ := hcut
  obtain ⟨w6, hw6⟩ : ∃ w6, wc = w6 := ⟨_, rfl⟩
  rw [hw6] at HEd HBd ⊢
  clear hw6 c0 c1 c2 c3 c4 c5 c6 c7 e0 e1 e2 e3 e4 e5 r0 r1 r2 r3 r4 r5 f0 f1 f2 f3 f4 f5 HPL HLIF HQL HEc HBc
  have HPT2 : Hid (p = if pf = 0 then evEnd r m ρ L pt (fldsD r hd [] (m.data.zip m.kinds)) else (noEv, (k : Int), pf)) := by show _ = _; rw [HPT.out, HTE.out]
  clear HPT HTE
  obtain ⟨c0, c1, c2, c3, c4, c5, c6, c7⟩ := (HMX.out w6 HBd.out).c8m
  obtain ⟨e0, e1, e2, e3, e4, e5⟩ := HEd.out.c6
  obtain ⟨r0, r1, r2, r3, r4, r5⟩ := (HRX.out w6 HBd.out).c6
  have f0 := (HRX.out w6 HBd.out).frozen 0
  have f1 := (HRX.out w6 HBd.out).frozen 1
  have f2 := (HRX.out w6 HBd.out).frozen 2
  have f3 := (HRX.out w6 HBd.out).frozen 3
  have f4 := (HRX.out w6 HBd.out).frozen 4
  have f5 := (HRX.out w6 HBd.out).frozen 5
  have xt := ((HBX.out w6 HBd.out).cell (p := ⟨b0, o0 + k, none⟩) HD0.out).trans ct
  have kk0 : (0 : Int) ≤ (k : Int) := by omega
  have kk1 : (k : Int) < (r.length : Int) := by omega
  have HNW := Lib.hid (HN.out w6 (HAM.out.now (HBX.out w6 HBd.out)))
  go_wp2_with fail
  (with_reducible refine HNW.out.mono ?_)
  rintro _ w7 ⟨rfl, hb7⟩
  have HE7 := Lib.hid (HEd.out.now hb7)
  have HB7 : Hid (Below E w3 w7) := Lib.hid (HBd.out.trans (hb7.mono (by have := HEd.out.lt; omega)))
  clear hb7 HNW HN xt c0 c1 c2 c3 c4 c5 c6 c7 e0 e1 e2 e3 e4 e5 r0 r1 r2 r3 r4 r5 f0 f1 f2 f3 f4 f5
  obtain ⟨c0, c1, c2, c3, c4, c5, c6, c7⟩ := (HMX.out w7 HB7.out).c8m
  obtain ⟨e0, e1, e2, e3, e4, e5⟩ := HE7.out.c6
  obtain ⟨r0, r1, r2, r3, r4, r5⟩ := (HRX.out w7 HB7.out).c6
  have f0 := (HRX.out w7 HB7.out).frozen 0
  have f1 := (HRX.out w7 HB7.out).frozen 1
  have f2 := (HRX.out w7 HB7.out).frozen 2
  have f3 := (HRX.out w7 HB7.out).frozen 3
  have f4 := (HRX.out w7 HB7.out).frozen 4
  have f5 := (HRX.out w7 HB7.out).frozen 5
  have g4 := HE7.out.frozen 4
  by_cases hpf : pf = 0
  rotate_left
  · have HPE : Hid (p = (noEv, (k : Int), pf)) := by show _ = _; rw [HPT2.out, if_neg hpf]
    have b1 : (pf != 0) = true := by simpa using hpf
    have hcode : pf ≠ 0 := hpf
    clear hpf
    have HCO := Lib.hid hcode
    clear hcode
    go_wp2_with fail
    go_region
    go_wp2_with fail
    have hcode := HCO.out
    have hz := (HRX.out w7 HB7.out).put6 (.string sa) (.string sb) (.string (bsOf ρ)) (.int .i64 L) (.int .i64 0) (.slice none 0 0)
    have hbz := below6 (HBX.out w7 HB7.out) (show w.heap.size ≤ w.heap.size + 1 by omega) (.string sa) (.string sb) (.string (bsOf ρ)) (.int .i64 L) (.int .i64 0) (.slice none 0 0)
    have hz := hz.drew
    have hbz := hbz.drew
    obtain ⟨wz, hwz⟩ : ∃ wz, (((((((w7.setCell ⟨w.heap.size + 1, 0, none⟩ (.string sa)).setCell ⟨w.heap.size + 1, 1, none⟩ (.string sb)).setCell ⟨w.heap.size + 1, 2, none⟩ (.string (bsOf ρ))).setCell ⟨w.heap.size + 1, 3, none⟩ (.int .i64 L)).setCell ⟨w.heap.size + 1, 4, none⟩ (.int .i64 0)).setCell ⟨w.heap.size + 1, 5, none⟩ (.slice none 0 0))).drew = wz := ⟨_, rfl⟩
    rw [hwz] at hz hbz ⊢
    clear hwz
    obtain ⟨q0, q1, q2, q3, q4, q5⟩ := hz.c6
    refine bodyPost_ret (v := .tuple #[.agg #[.string sa, .string sb, .string (bsOf ρ), .int .i64 L, .int .i64 0, .slice none 0 0], .int .i64 (k : Int), .int .i64 pf]) (by simp [results, Tryz.results54, go_sem, q0, q1, q2, q3, q4, q5]) rfl ?_
    show RetEv _ _ _ _
    rw [HPE.out]
    exact ret_bad rfl hcode hbz
  have HPQ : Hid (p = evEnd r m ρ L pt (fldsD r hd [] (m.data.zip m.kinds))) := by show _ = _; rw [HPT2.out, if_pos hpf]
  have b1 : (pf != 0) = false := by rw [hpf]; rfl
  clear hpf HPT2
  have hE8 := HE7.out.set_ 4 (.int .i64 pt)
  have hB8 := HB7.out.setCell (p := ⟨E, 4, none⟩) (Nat.le_refl E) (.int .i64 pt)
  go_upto_region 19 with fail
  obtain ⟨w8, hw8⟩ : ∃ w8, w7.setCell ⟨E, 4, none⟩ (.int .i64 pt) = w8 := ⟨_, rfl⟩
  rw [hw8] at hE8 hB8 ⊢
  have HE8 : Hid (Blk w8 E 69 #[.string sa, .string sb, .string (bsOf ρ), .int .i64 L, .int .i64 pt, .slice none 0 0]) := Lib.hid hE8
  have HB8 := Lib.hid hB8
  clear hw8 hE8 hB8 g4 c0 c1 c2 c3 c4 c5 c6 c7 e0 e1 e2 e3 e4 e5 r0 r1 r2 r3 r4 r5 f0 f1 f2 f3 f4 f5 HE7 HB7 HEd HBd
  obtain ⟨c0, c1, c2, c3, c4, c5, c6, c7⟩ := (HMX.out w8 HB8.out).c8m
  obtain ⟨e0, e1, e2, e3, e4, e5⟩ := HE8.out.c6
  obtain ⟨r0, r1, r2, r3, r4, r5⟩ := (HRX.out w8 HB8.out).c6
  have f0 := (HRX.out w8 HB8.out).frozen 0
  have f1 := (HRX.out w8 HB8.out).frozen 1
  have f2 := (HRX.out w8 HB8.out).frozen 2
  have f3 := (HRX.out w8 HB8.out).frozen 3
  have f4 := (HRX.out w8 HB8.out).frozen 4
  have f5 := (HRX.out w8 HB8.out).frozen 5
  go_wp2_with fail
  clear c0 c1 c2 c3 c4 c5 c6 c7 e0 e1 e2 e3 e4 e5 r0 r1 r2 r3 r4 r5 f0 f1 f2 f3 f4 f5
  go_loopw [103] (fun iv wr => ∃ (i : Nat) (acc : List Fld) (dv : Value), iv = .int .i64 (i : Int) ∧ i ≤ m.data.length ∧ Hid (Blk wr E 69 #[.string sa, .string sb, .string (bsOf ρ), .int .i64 L, .int .i64 pt, dv]) ∧ Hid (OwnFl wr w8.heap.size dv acc) ∧ Hid (FldsOk hd (m.data.take i) acc) ∧ Hid (p = evEnd r m ρ L pt (fldsD r hd acc ((m.data.zip m.kinds).drop i))) ∧ Hid (Below E w3 wr) ∧ Hid (w8.heap.size ≤ wr.heap.size)) (fun iv _ => m.data.length - (intOf iv).toNat)
  case atStart => exact ⟨0, [], _, rfl, Nat.zero_le _, HE8, Lib.hid OwnW.nil, Lib.hid (by rw [List.take_zero]; exact FldsOk.nil hd), HPQ, HB8, Lib.hid (Nat.le_refl _)⟩
  case round =>
    obtain ⟨q, acc, dv, rfl, hq, HEr, HOr, HFr, HPr, HBr, HSr⟩ := hrel
    obtain ⟨wo, hwo⟩ : ∃ wo, wr = wo := ⟨_, rfl⟩
    rw [hwo] at HEr HOr HBr HSr ⊢
    clear hwo HPQ
    have HEL : Hid (E < w8.heap.size) := HE8.out.lt
    have HBo := Lib.hid (HBX.out wo HBr.out)
    have HMr := Lib.hid (HMX.out wo HBr.out)
    obtain ⟨Av, cv, hdv⟩ := HOr.out.open_
    subst hdv
    have HAL : Hid (acc.length ≤ 8) := Lib.hid (by have := HFr.out.len; rw [List.length_take] at this; have := HOK.out.len; omega)
    by_cases hlt : q < m.data.length
    · obtain ⟨db, do_, dx, rfl, hDd, hdx, hdf, cdx⟩ := SlI.at_ (SlI.now HMD.out HBo.out) hlt
      obtain ⟨kb, ko, kq, rfl, hDk, hkx, hkf, ckq⟩ := SlI.at_ (SlI.now HMK.out HBo.out) (k := q) (by have := HOK.out.kinds; omega)
      obtain ⟨d, rfl⟩ : ∃ d : Nat, dx = (d : Int) := ⟨dx.toNat, by have := HOK.out.data dx (List.mem_of_getElem? hdx); omega⟩
      have hdl : d < r.length := by have := HDC.out _ (List.mem_of_getElem? hdx); omega
      have HZ : Hid ((m.data.zip m.kinds).drop q = ((d : Int), kq) :: (m.data.zip m.kinds).drop (q + 1)) := Lib.hid (zip_at hdx hkx)
      have HTS : Hid (m.data.take (q + 1) = m.data.take q ++ [(d : Int)]) := Lib.hid (take_snocI hdx)
      have hrd : r[d]? = some r[d] := List.getElem?_eq_getElem hdl
      obtain ⟨bx, ox, hA, _, hlx, cx⟩ := SlP.cellAt HRR.out hrd rfl
      injection hA with hA
      injection hA with e1' e2'
      subst e1' e2'
      have hkc := cellAt_of hrd
      have hxl : (r[d]).length ≤ 1000000 := HRL.out _ (List.getElem_mem hdl)
      generalize r[d] = x at *
      have cx := (HBo.out.cell (p := ⟨b0, o0 + d, none⟩) HD0.out).trans cx
      have hb0 : b0 < wo.heap.size := by have := HD0.out; have := HBo.out.size; omega
      obtain ⟨dz, hdz⟩ : ∃ dz, datE (bsOf x) kq = dz := ⟨_, rfl⟩
      have HDE : Hid (fldsD r hd acc ((m.data.zip m.kinds).drop q) = if x = [] then fldsD r hd acc ((m.data.zip m.kinds).drop (q + 1)) else if dz.2 = 0 then fldsD r hd (acc ++ [⟨bsOf (cellAt hd (d : Int)), dz.1⟩]) ((m.data.zip m.kinds).drop (q + 1)) else (acc, (d : Int), dz.2)) := by
        show _ = _
        rw [HZ.out]
        show (if cellAt r (d : Int) = [] then _ else _) = _
        rw [hkc, hdz]
      have HDV : Hid (dz.2 = 0 → validV dz.1 = true) := Lib.hid fun h => by rw [← hdz]; exact dat_valid (by rw [hdz]; exact h)
      have HDAT : Hid (∀ W, Below wo.heap.size wo W → Calls Tryz.prog 100 #[.string (bsOf x), .int .i64 kq] W fun e w' => e = .returned (.tuple #[.agg #[.int .i64 dz.1.kind, .int .i64 dz.1.n, .string dz.1.s], .int .i64 dz.2]) ∧ Below W.heap.size W w') := Lib.hid fun W hW => by
        have := datum_any (bsOf x) kq W (by rw [bs_size]; exact hxl) hkf ((HAM.out.now HBo.out).now hW)
        rw [hdz] at this
        exact this
      have hhl : d < hd.length := by rw [HLN.out]; exact hdl
      have hhd : hd[d]? = some hd[d] := List.getElem?_eq_getElem hhl
      obtain ⟨hb, ho, hA2, hDh, hly, cy⟩ := SlP.cellAt (SlP.now HHH.out HBo.out) hhd rfl
      have HAH : Hid (Ah = some ⟨hb, ho, none⟩) := Lib.hid hA2
      have hkh := cellAt_of hhd
      generalize hd[d] = y at *
      have HHY := Lib.hid hkh
      obtain ⟨v, z⟩ := dz
      dsimp only at HDE HDV HDAT
      have di0 : (0 : Int) ≤ (d : Int) := by omega
      have di1 : (d : Int) < (r.length : Int) := by omega
      have ki0 : (0 : Int) ≤ (q : Int) := by omega
      have ki1 : (q : Int) < (m.kinds.length : Int) := by have := HOK.out.kinds; omega
      have q1 : (q : Int) < (m.data.length : Int) := by omega
      have HD1 := Lib.hid hdl
      clear hdx hkx hdf hkf hrd hlx hxl hkc hdz hkh hhd hly hdl
      obtain ⟨c0, c1, c2, c3, c4, c5, c6, c7⟩ := (HMX.out wo HBr.out).c8m
      obtain ⟨e0, e1, e2, e3, e4, e5⟩ := HEr.out.c6
      obtain ⟨r0, r1, r2, r3, r4, r5⟩ := (HRX.out wo HBr.out).c6
      have f0 := (HRX.out wo HBr.out).frozen 0
      have f1 := (HRX.out wo HBr.out).frozen 1
      have f2 := (HRX.out wo HBr.out).frozen 2
      have f3 := (HRX.out wo HBr.out).frozen 3
      have f4 := (HRX.out wo HBr.out).frozen 4
      have f5 := (HRX.out wo HBr.out).frozen 5
      by_cases hx0 : x = []
      · have HNX : Hid (p = evEnd r m ρ L pt (fldsD r hd acc ((m.data.zip m.kinds).drop (q + 1)))) := by show _ = _; rw [HPr.out, HDE.out, if_pos hx0]
        have HFX : Hid (FldsOk hd (m.data.take (q + 1)) acc) := Lib.hid (by rw [HTS.out]; exact HFr.out.skip _)
        subst hx0
        have s1 : (bsOf []).toList.isEmpty = true := by decide +kernel
        have s2 : (bsOf []).toList = [] := by decide +kernel
        go_wp2_with fail
        go_roundw
        case rel => exact ⟨q + 1, acc, _, by go_num, by omega, HEr, HOr, HFX, HNX, HBr, HSr⟩
        case measure => simp [intOf]; omega
      have s1 : (bsOf x).toList.isEmpty = false := by
        rw [Lib.toList_data]
        show x.isEmpty = false
        cases x with
        | nil => exact absurd rfl hx0
        | cons a l => rfl
      have s2 : ((bsOf x).toList == []) = false := by
        rw [Lib.toList_data]
        show (x == []) = false
        rw [beq_eq_false_iff_ne]; exact hx0
      have s3 : (bsOf x).toList ≠ [] := by
        rw [Lib.toList_data]; exact hx0
      have HDN : Hid (p = evEnd r m ρ L pt (if z = 0 then fldsD r hd (acc ++ [⟨bsOf (cellAt hd (d : Int)), v⟩]) ((m.data.zip m.kinds).drop (q + 1)) else (acc, (d : Int), z))) := by show _ = _; rw [HPr.out, HDE.out, if_neg hx0]
      clear hx0 HDE HPr
      go_upto_region 23 with fail
      clear s1 s2 s3 c0 c1 c2 c3 c4 c5 c6 c7 e0 e1 e2 e3 e4 e5 r0 r1 r2 r3 r4 r5 f0 f1 f2 f3 f4 f5
      go_cut [15, 16] from 113 to 125 (fun pv fv W => ∃ T : Nat, pv = .pointer (some ⟨T, 0, none⟩) ∧ fv = .int .i64 z ∧ Blk W T 121 #[.int .i64 v.kind, .int .i64 v.n, .string v.s] ∧ Below wo.heap.size wo W)
      case first =>
        clear HDN HDV HTS HZ HEL HAL HFr HOr HEr HSr cdx cy
        rename_i J1 K1 hJ hK
        have hkb : kb < wo.heap.size := hDk
        refine wp_region_mk (by kernel_rfl) (by kernel_rfl) (by kernel_rfl) datF_mk (datF b0 o0 r.length cr d w.heap.size kb ko m.kinds.length ck q (bsOf x) kq z v) ?hstep ?hmk ?hend ?hall
        case hall => exact hall_of (by kernel_rfl)
        case hmk =>
          intro i o ho hm
          match i, ho with
          | 0, ho => exact absurd hm (by decide)
          | 1, ho => exact absurd hm (by decide)
          | 2, ho => exact absurd hm (by decide)
          | 3, ho => exact absurd hm (by decide)
          | 4, ho => exact absurd hm (by decide)
          | 5, ho => exact absurd hm (by decide)
          | 6, ho => exact absurd hm (by decide)
          | 7, ho => exact absurd hm (by decide)
          | 8, ho => exact absurd hm (by decide)
          | 9, ho => exact absurd hm (by decide)
          | 10, ho => exact absurd hm (by decide)
          | 11, ho => exact absurd hm (by decide)
          | 12, ho => exact absurd hm (by decide)
          | 13, ho => injection ho with ho; subst ho; simp
          | 14, ho => exact absurd hm (by decide)
          | 15, ho => exact absurd hm (by decide)
          | n + 16, ho => simp at ho
        case hstep =>
          intro i o ho listed ac W hsh hi hk hM
          have hni := ready_not hi
          have hup14 : Up listed 14 → Up listed 13 := fun h => hsh.up h (by kernel_rfl)
          have hbW : Below wo.heap.size wo W := (Below.refl _ _).drew.trans hM.below
          match i, ho with
          | 0, ho =>
            injection ho with ho
            subst ho
            have e0 : ac.eval (.tmp 0) = .slice (some ⟨b0, o0, none⟩) r.length cr := hk.same (s := 0) (by kernel_rfl)
            exact wpM_moveV _ _ rfl e0 ⟨_, rfl, Below.refl _ _, fun h => absurd h (by decide), fun τ' t1 t2 => ⟨t1 (by simp), fun j hj hji hu => datF_keep hup14 hni t2 (Below.refl _ _) hM.facts j hj hji hu⟩⟩
          | 1, ho =>
            injection ho with ho
            subst ho
            have e0 : ac.eval (.tmp 14) = .int .i64 (d : Int) := hk.same (s := 14) (by kernel_rfl)
            exact wpM_moveV _ _ rfl e0 ⟨_, rfl, Below.refl _ _, fun h => absurd h (by decide), fun τ' t1 t2 => ⟨t1 (by simp), fun j hj hji hu => datF_keep hup14 hni t2 (Below.refl _ _) hM.facts j hj hji hu⟩⟩
          | 2, ho =>
            injection ho with ho
            subst ho
            have e0 : ac.eval (.tmp 114) = .slice (some ⟨b0, o0, none⟩) r.length cr := hM.facts 0 (by decide) (ready_up hi (by kernel_rfl))
            have e1 : ac.eval (.tmp 115) = .int .i64 (d : Int) := hM.facts 1 (by decide) (ready_up hi (by kernel_rfl))
            exact wpM_run (.pointer (some ⟨b0, o0 + d, none⟩)) W (by simp only [execOp, e0, e1]; simp [go_sem, di0, di1]) ⟨_, rfl, Below.refl _ _, fun h => absurd h (by decide), fun τ' t1 t2 => ⟨t1 (by simp), fun j hj hji hu => datF_keep hup14 hni t2 (Below.refl _ _) hM.facts j hj hji hu⟩⟩
          | 3, ho =>
            injection ho with ho
            subst ho
            have e0 : ac.eval (.tmp 116) = .pointer (some ⟨b0, o0 + d, none⟩) := hM.facts 2 (by decide) (ready_up hi (by kernel_rfl))
            exact wpM_load _ _ _ (.string (bsOf x)) rfl e0 (by simp [go_sem, (hbW.cell (p := ⟨b0, o0 + d, none⟩) hb0).trans cx]) ⟨_, rfl, Below.refl _ _, fun h => absurd h (by decide), fun τ' t1 t2 => ⟨t1 (by simp), fun j hj hji hu => datF_keep hup14 hni t2 (Below.refl _ _) hM.facts j hj hji hu⟩⟩
          | 4, ho =>
            injection ho with ho
            subst ho
            have e0 : ac.eval (.tmp 5) = .pointer (some ⟨w.heap.size, 0, none⟩) := hk.same (s := 5) (by kernel_rfl)
            exact wpM_run (.pointer (some ⟨w.heap.size, 6, none⟩)) W (by simp only [execOp, e0]; simp [go_sem]) ⟨_, rfl, Below.refl _ _, fun h => absurd h (by decide), fun τ' t1 t2 => ⟨t1 (by simp), fun j hj hji hu => datF_keep hup14 hni t2 (Below.refl _ _) hM.facts j hj hji hu⟩⟩
          | 5, ho =>
            injection ho with ho
            subst ho
            have e0 : ac.eval (.tmp 118) = .pointer (some ⟨w.heap.size, 6, none⟩) := hM.facts 4 (by decide) (ready_up hi (by kernel_rfl))
            exact wpM_load _ _ _ (.slice (some ⟨kb, ko, none⟩) m.kinds.length ck) rfl e0 (by simp [go_sem, (HMr.out.now hbW).c8m.2.2.2.2.2.2.1]) ⟨_, rfl, Below.refl _ _, fun h => absurd h (by decide), fun τ' t1 t2 => ⟨t1 (by simp), fun j hj hji hu => datF_keep hup14 hni t2 (Below.refl _ _) hM.facts j hj hji hu⟩⟩
          | 6, ho =>
            injection ho with ho
            subst ho
            have e0 : ac.eval (.tmp 13) = .int .i64 (q : Int) := hk.same (s := 13) (by kernel_rfl)
            exact wpM_moveV _ _ rfl e0 ⟨_, rfl, Below.refl _ _, fun h => absurd h (by decide), fun τ' t1 t2 => ⟨t1 (by simp), fun j hj hji hu => datF_keep hup14 hni t2 (Below.refl _ _) hM.facts j hj hji hu⟩⟩
          | 7, ho =>
            injection ho with ho
            subst ho
            have e0 : ac.eval (.tmp 119) = .slice (some ⟨kb, ko, none⟩) m.kinds.length ck := hM.facts 5 (by decide) (ready_up hi (by kernel_rfl))
            have e1 : ac.eval (.tmp 120) = .int .i64 (q : Int) := hM.facts 6 (by decide) (ready_up hi (by kernel_rfl))
            exact wpM_run (.pointer (some ⟨kb, ko + q, none⟩)) W (by simp only [execOp, e0, e1]; simp [go_sem, ki0, ki1]) ⟨_, rfl, Below.refl _ _, fun h => absurd h (by decide), fun τ' t1 t2 => ⟨t1 (by simp), fun j hj hji hu => datF_keep hup14 hni t2 (Below.refl _ _) hM.facts j hj hji hu⟩⟩
          | 8, ho =>
            injection ho with ho
            subst ho
            have e0 : ac.eval (.tmp 121) = .pointer (some ⟨kb, ko + q, none⟩) := hM.facts 7 (by decide) (ready_up hi (by kernel_rfl))
            exact wpM_load _ _ _ (.int .i64 kq) rfl e0 (by simp [go_sem, (hbW.cell (p := ⟨kb, ko + q, none⟩) hkb).trans ckq]) ⟨_, rfl, Below.refl _ _, fun h => absurd h (by decide), fun τ' t1 t2 => ⟨t1 (by simp), fun j hj hji hu => datF_keep hup14 hni t2 (Below.refl _ _) hM.facts j hj hji hu⟩⟩
          | 9, ho =>
            injection ho with ho
            subst ho
            have e0 : ac.eval (.tmp 117) = .string (bsOf x) := hM.facts 3 (by decide) (ready_up hi (by kernel_rfl))
            have e1 : ac.eval (.tmp 122) = .int .i64 kq := hM.facts 8 (by decide) (ready_up hi (by kernel_rfl))
            refine wpM_callF (f := 100) enters_datum _ _ #[.string (bsOf x), .int .i64 kq] _ rfl rfl (by simp only [List.map_toArray, List.map_cons, List.map_nil, e0, e1]) ((HDAT.out W hbW).mono ?_)
            rintro e W' ⟨rfl, hb⟩
            exact ⟨_, rfl, _, rfl, hb.mono hbW.size, fun h => absurd h (by decide), fun τ' t1 t2 => ⟨t1 (by simp), fun j hj hji hu => datF_keep hup14 hni t2 hb hM.facts j hj hji hu⟩⟩
          | 10, ho =>
            injection ho with ho
            subst ho
            have e0 : ac.eval (.tmp 123) = .tuple #[.agg #[.int .i64 v.kind, .int .i64 v.n, .string v.s], .int .i64 z] := hM.facts 9 (by decide) (ready_up hi (by kernel_rfl))
            exact wpM_moveV _ _ rfl e0 ⟨_, rfl, Below.refl _ _, fun h => absurd h (by decide), fun τ' t1 t2 => ⟨t1 (by simp), fun j hj hji hu => datF_keep hup14 hni t2 (Below.refl _ _) hM.facts j hj hji hu⟩⟩
          | 11, ho =>
            injection ho with ho
            subst ho
            have e0 : ac.eval (.tmp 113) = .tuple #[.agg #[.int .i64 v.kind, .int .i64 v.n, .string v.s], .int .i64 z] := hM.facts 10 (by decide) (ready_up hi (by kernel_rfl))
            exact wpM_run (.agg #[.int .i64 v.kind, .int .i64 v.n, .string v.s]) W (by simp only [execOp, e0]; simp [go_sem]) ⟨_, rfl, Below.refl _ _, fun h => absurd h (by decide), fun τ' t1 t2 => ⟨t1 (by simp), fun j hj hji hu => datF_keep hup14 hni t2 (Below.refl _ _) hM.facts j hj hji hu⟩⟩
          | 12, ho =>
            injection ho with ho
            subst ho
            have e0 : ac.eval (.tmp 113) = .tuple #[.agg #[.int .i64 v.kind, .int .i64 v.n, .string v.s], .int .i64 z] := hM.facts 10 (by decide) (ready_up hi (by kernel_rfl))
            exact wpM_run (.int .i64 z) W (by simp only [execOp, e0]; simp [go_sem]) ⟨_, rfl, Below.refl _ _, fun h => absurd h (by decide), fun τ' t1 t2 => ⟨t1 (by simp), fun j hj hji hu => datF_keep hup14 hni t2 (Below.refl _ _) hM.facts j hj hji hu⟩⟩
          | 13, ho =>
            injection ho with ho
            subst ho
            exact wpM_alloc _ _ _ rfl (alV W) ⟨_, rfl, (bone _ _).mono hbW.size, fun _ => ⟨Nat.le_refl _, by simp [blkOf]⟩, fun τ' t1 t2 => ⟨⟨_, t1 (by simp), _, _, _, Blk.new _ _ _⟩, fun j hj hji hu => datF_keep hup14 hni t2 (bone _ _) hM.facts j hj hji hu⟩⟩
          | 14, ho =>
            injection ho with ho
            subst ho
            have e0 : ac.eval (.tmp 124) = .agg #[.int .i64 v.kind, .int .i64 v.n, .string v.s] := hM.facts 11 (by decide) (ready_up hi (by kernel_rfl))
            have u1 := ready_up hi (show Region.waitsFor .any _ 14 13 = true by kernel_rfl)
            obtain ⟨p, ep, x0, x1, x2, hp⟩ := hM.facts 13 (by decide) u1
            have k1 : ac.eval (.tmp 15) = .pointer (some ⟨p, 0, none⟩) := ep
            have hlo := hM.lo 13 (by decide) rfl u1
            rw [ep] at hlo
            have hlo1 : wo.heap.size ≤ p := hlo.1
            obtain ⟨q0, q1, q2⟩ := hp.c3
            have f0 := hp.frozen 0
            have f1 := hp.frozen 1
            have f2 := hp.frozen 2
            have hset : Blk (((W.setCell ⟨p, 0, none⟩ (.int .i64 v.kind)).setCell ⟨p, 1, none⟩ (.int .i64 v.n)).setCell ⟨p, 2, none⟩ (.string v.s)) p 121 #[.int .i64 v.kind, .int .i64 v.n, .string v.s] := (((hp.set_ 0 (.int .i64 v.kind)).set_ 1 (.int .i64 v.n)).set_ 2 (.string v.s))
            have hbs : Below wo.heap.size W (((W.setCell ⟨p, 0, none⟩ (.int .i64 v.kind)).setCell ⟨p, 1, none⟩ (.int .i64 v.n)).setCell ⟨p, 2, none⟩ (.string v.s)) := ((((Below.refl _ _).setCell (p := ⟨p, 0, none⟩) hlo1 (.int .i64 v.kind)).setCell (p := ⟨p, 1, none⟩) hlo1 (.int .i64 v.n)).setCell (p := ⟨p, 2, none⟩) hlo1 (.string v.s))
            refine wpM_store _ _ _ _ _ (((W.setCell ⟨p, 0, none⟩ (.int .i64 v.kind)).setCell ⟨p, 1, none⟩ (.int .i64 v.n)).setCell ⟨p, 2, none⟩ (.string v.s)) () rfl k1 e0 (by simp [go_sem, q0, q1, q2, f0, f1, f2]) ⟨_, rfl, hbs, fun h => absurd h (by decide), fun τ' t1 t2 => ⟨⟨p, (t2 13 (by decide) (by decide)).trans ep, hset⟩, fun j hj hji hu => ?_⟩⟩
            match j, hj with
            | 0, _ => exact (t2 0 (by decide) hji).trans (hM.facts 0 (by decide) hu)
            | 1, _ => exact (t2 1 (by decide) hji).trans (hM.facts 1 (by decide) hu)
            | 2, _ => exact (t2 2 (by decide) hji).trans (hM.facts 2 (by decide) hu)
            | 3, _ => exact (t2 3 (by decide) hji).trans (hM.facts 3 (by decide) hu)
            | 4, _ => exact (t2 4 (by decide) hji).trans (hM.facts 4 (by decide) hu)
            | 5, _ => exact (t2 5 (by decide) hji).trans (hM.facts 5 (by decide) hu)
            | 6, _ => exact (t2 6 (by decide) hji).trans (hM.facts 6 (by decide) hu)
            | 7, _ => exact (t2 7 (by decide) hji).trans (hM.facts 7 (by decide) hu)
            | 8, _ => exact (t2 8 (by decide) hji).trans (hM.facts 8 (by decide) hu)
            | 9, _ => exact (t2 9 (by decide) hji).trans (hM.facts 9 (by decide) hu)
            | 10, _ => exact (t2 10 (by decide) hji).trans (hM.facts 10 (by decide) hu)
            | 11, _ => exact (t2 11 (by decide) hji).trans (hM.facts 11 (by decide) hu)
            | 12, _ => exact (t2 12 (by decide) hji).trans (hM.facts 12 (by decide) hu)
            | 13, _ => exact ⟨p, (t2 13 (by decide) (by decide)).trans ep, _, _, _, hset⟩
            | 14, _ => exact absurd rfl hji
            | 15, _ => exact (t2 15 (by decide) hji).trans (hM.facts 15 (by decide) hu)
            | n + 16, hj => exact absurd hj (by simp)
          | 15, ho =>
            injection ho with ho
            subst ho
            have e0 : ac.eval (.tmp 125) = .int .i64 z := hM.facts 12 (by decide) (ready_up hi (by kernel_rfl))
            exact wpM_assign _ _ rfl e0 ⟨_, rfl, Below.refl _ _, fun h => absurd h (by decide), fun τ' t1 t2 => ⟨t1 (by simp), fun j hj hji hu => datF_keep hup14 hni t2 (Below.refl _ _) hM.facts j hj hji hu⟩⟩
          | n + 16, ho => simp at ho
        case hend =>
          intro listed ac W hupp hk hM
          have hbW : Below wo.heap.size wo W := (Below.refl _ _).drew.trans hM.below
          obtain ⟨p, e13, hp⟩ := hM.facts 14 (by decide) (hupp 14 (by decide))
          have x114 := hM.facts 0 (by decide) (hupp 0 (by decide))
          have x115 := hM.facts 1 (by decide) (hupp 1 (by decide))
          have x116 := hM.facts 2 (by decide) (hupp 2 (by decide))
          have x117 := hM.facts 3 (by decide) (hupp 3 (by decide))
          have x118 := hM.facts 4 (by decide) (hupp 4 (by decide))
          have x119 := hM.facts 5 (by decide) (hupp 5 (by decide))
          have x120 := hM.facts 6 (by decide) (hupp 6 (by decide))
          have x121 := hM.facts 7 (by decide) (hupp 7 (by decide))
          have x122 := hM.facts 8 (by decide) (hupp 8 (by decide))
          have x123 := hM.facts 9 (by decide) (hupp 9 (by decide))
          have x113 := hM.facts 10 (by decide) (hupp 10 (by decide))
          have x124 := hM.facts 11 (by decide) (hupp 11 (by decide))
          have x125 := hM.facts 12 (by decide) (hupp 12 (by decide))
          have x16 := hM.facts 15 (by decide) (hupp 15 (by decide))
          have y15 : Act.slot ac 15 = .pointer (some ⟨p, 0, none⟩) := e13
          have y16 : Act.slot ac 16 = .int .i64 z := x16
          refine hK _ _ ?_
          rw [hk.form (by kernel_rfl)]
          simp only [putsAll, Option.getD_some, Act.put, List.setIfInBounds_toArray, List.set_cons_zero, List.set_cons_succ, y15, y16]
          go_meet
          exact ⟨p, rfl, rfl, hp, hbW⟩
      case rest =>
      obtain ⟨T, rfl, rfl, hT, hb5⟩ := hcut
      obtain ⟨w5, hw5⟩ : ∃ w5, wc = w5 := ⟨_, rfl⟩
      rw [hw5] at hT hb5 ⊢
      have HT := Lib.hid hT
      have HE5 := Lib.hid (HEr.out.now hb5)
      have HO5 : Hid (OwnFl w5 w8.heap.size (.slice Av acc.length cv) acc) := Lib.hid (OwnW.now HOr.out hb5)
      have HB5 : Hid (Below E w3 w5) := Lib.hid (HBr.out.trans (hb5.mono (by have := HEr.out.lt; omega)))
      have HS5 : Hid (w8.heap.size ≤ w5.heap.size) := Lib.hid (Nat.le_trans HSr.out hb5.size)
      have HY5 : Hid (w5.cell? ⟨hb, ho + d, none⟩ = some (.string (bsOf y))) := Lib.hid ((hb5.cell (p := ⟨hb, ho + d, none⟩) hDh).trans cy)
      have HYL : Hid (hb < w5.heap.size) := Lib.hid (Nat.lt_of_lt_of_le hDh hb5.size)
      clear hw5 hT hb5 cy cdx cx ckq HDAT HEr HOr HBr HSr
      obtain ⟨c0, c1, c2, c3, c4, c5, c6, c7⟩ := (HMX.out w5 HB5.out).c8m
      obtain ⟨e0, e1, e2, e3, e4, e5⟩ := HE5.out.c6
      obtain ⟨r0, r1, r2, r3, r4, r5⟩ := (HRX.out w5 HB5.out).c6
      have f0 := (HRX.out w5 HB5.out).frozen 0
      have f1 := (HRX.out w5 HB5.out).frozen 1
      have f2 := (HRX.out w5 HB5.out).frozen 2
      have f3 := (HRX.out w5 HB5.out).frozen 3
      have f4 := (HRX.out w5 HB5.out).frozen 4
      have f5 := (HRX.out w5 HB5.out).frozen 5
      by_cases hz0 : z = 0
      rotate_left
      · have HPE : Hid (p = (noEv, (d : Int), z)) := by show _ = _; rw [HDN.out, if_neg hz0, HEND.out, if_neg hz0]
        have b1 : (z != 0) = true := by simpa using hz0
        have HCO := Lib.hid hz0
        clear hz0
        go_wp2_with fail
        have hcode := HCO.out
        have hz := (HRX.out w5 HB5.out).put6 (.string sa) (.string sb) (.string (bsOf ρ)) (.int .i64 L) (.int .i64 pt) (.slice Av acc.length cv)
        have hbz := below6 (HBX.out w5 HB5.out) (show w.heap.size ≤ w.heap.size + 1 by omega) (.string sa) (.string sb) (.string (bsOf ρ)) (.int .i64 L) (.int .i64 pt) (.slice Av acc.length cv)
        obtain ⟨wz, hwz⟩ : ∃ wz, ((((((w5.setCell ⟨w.heap.size + 1, 0, none⟩ (.string sa)).setCell ⟨w.heap.size + 1, 1, none⟩ (.string sb)).setCell ⟨w.heap.size + 1, 2, none⟩ (.string (bsOf ρ))).setCell ⟨w.heap.size + 1, 3, none⟩ (.int .i64 L)).setCell ⟨w.heap.size + 1, 4, none⟩ (.int .i64 pt)).setCell ⟨w.heap.size + 1, 5, none⟩ (.slice Av acc.length cv)) = wz := ⟨_, rfl⟩
        rw [hwz] at hz hbz ⊢
        clear hwz
        obtain ⟨q0, q1, q2, q3, q4, q5⟩ := hz.c6
        refine bodyPost_ret (v := .tuple #[.agg #[.string sa, .string sb, .string (bsOf ρ), .int .i64 L, .int .i64 pt, .slice Av acc.length cv], .int .i64 (d : Int), .int .i64 z]) (by simp [results, Tryz.results54, go_sem, q0, q1, q2, q3, q4, q5]) rfl ?_
        show RetEv _ _ _ _
        rw [HPE.out]
        exact ret_bad rfl hcode hbz
      have HPN : Hid (p = evEnd r m ρ L pt (fldsD r hd (acc ++ [⟨bsOf y, v⟩]) ((m.data.zip m.kinds).drop (q + 1)))) := by show _ = _; rw [HDN.out, if_pos hz0, HHY.out]
      have HFX : Hid (FldsOk hd (m.data.take (q + 1)) (acc ++ [⟨bsOf y, v⟩])) := Lib.hid (by rw [HTS.out, ← HHY.out]; exact HFr.out.more _ (HDV.out hz0))
      have b1 : (z != 0) = false := by rw [hz0]; rfl
      clear hz0 HDN HDV
      have HPU := Lib.hid (fun (w' : World) (v' : Value) h1 h2 => fld_pushed (w5 := w5.drew) (w' := w') (v' := v') (f := ⟨bsOf y, v⟩) HE5.out.drew HEL.out HB5.out.drew h1 h2 (fun g e => (World.ownsRow.lt HO5.out g e).1))
      have hol : acc.length < 10000000 := by have := HAL.out; omega
      have yi0 : (0 : Int) ≤ (d : Int) := by omega
      have yi1 : (d : Int) < (hd.length : Int) := by have := HD1.out; have := HLN.out; omega
      clear c0 c1 c2 c3 c4 c5 c6 c7 e0 e1 e2 e3 e4 e5 r0 r1 r2 r3 r4 r5 f0 f1 f2 f3 f4 f5
      go_upto_region 26 with fail
      · have z5 : w5.cell? ⟨E, 5, none⟩ = some (.slice Av acc.length cv) := HE5.out.c6.2.2.2.2.2
        have z6 : (w5.alloc (.cells (fldC ⟨bsOf y, v⟩).toArray 123)).cell? ⟨E, 5, none⟩ = some (.slice Av acc.length cv) := (HE5.out.alloc _).c6.2.2.2.2.2
        have y5 : w5.cell? ⟨hb, ho + d, none⟩ = some (.string (bsOf y)) := HY5.out
        have y6 : (w5.alloc (.cells (fldC ⟨bsOf y, v⟩).toArray 123)).cell? ⟨hb, ho + d, none⟩ = some (.string (bsOf y)) := ((bone w5 _).cell (p := ⟨hb, ho + d, none⟩) HYL.out).trans HY5.out
        obtain ⟨v0, v1, v2⟩ := HT.out.c3
        obtain ⟨u0, u1, u2⟩ := (HT.out.alloc (.cells (fldC ⟨bsOf y, v⟩).toArray 123)).c3
        have hO5 : OwnFl w5.drew w8.heap.size (.slice Av acc.length cv) acc := HO5.out
        have hs5 : w8.heap.size ≤ w5.drew.heap.size := HS5.out
        refine wp_region_rel3 (by kernel_rfl) (by kernel_rfl) (by kernel_rfl) (fun U W => (¬ U 8 → W = w5.drew) ∧ (U 8 → ¬ U 9 → W = w5.drew.alloc (.cells (fldC ⟨bsOf y, v⟩).toArray 123))) (pshF E hb ho d hd.length ch acc.length cv w5.heap.size T Ah Av (bsOf y) v (fun (u : Value) (W : World) => ∃ A' c', u = .slice A' (acc ++ [(⟨bsOf y, v⟩ : Fld)]).length c' ∧ Blk W E 69 #[.string sa, .string sb, .string (bsOf ρ), .int .i64 L, .int .i64 pt, .slice Av acc.length cv] ∧ (Blk (W.setCell ⟨E, 5, none⟩ u) E 69 #[.string sa, .string sb, .string (bsOf ρ), .int .i64 L, .int .i64 pt, u] ∧ OwnFl (W.setCell ⟨E, 5, none⟩ u) w8.heap.size u (acc ++ [(⟨bsOf y, v⟩ : Fld)]) ∧ Below E w3 (W.setCell ⟨E, 5, none⟩ u) ∧ w5.heap.size ≤ (W.setCell ⟨E, 5, none⟩ u).heap.size)) (fun (W : World) => ∃ A' c', Blk W E 69 #[.string sa, .string sb, .string (bsOf ρ), .int .i64 L, .int .i64 pt, .slice A' (acc ++ [(⟨bsOf y, v⟩ : Fld)]).length c'] ∧ OwnFl W w8.heap.size (.slice A' (acc ++ [(⟨bsOf y, v⟩ : Fld)]).length c') (acc ++ [(⟨bsOf y, v⟩ : Fld)]) ∧ Below E w3 W ∧ w5.heap.size ≤ W.heap.size)) pshFD ?h0 ?hstep ?hend ?hall
        case hall => exact hall_of (by kernel_rfl)
        case h0 => exact ⟨fun _ => rfl, fun h => h.elim⟩
        case hstep =>
          intro i o hop listed ac W hsh hi hk hR hM
          have hni := ready_not hi
          obtain ⟨hR1, hR2⟩ := hR
          have nd : ∀ j : Nat, (j == 9) = false → ∀ k, pshFD j k = true → ¬ Up listed k := fun j hj k h => by unfold pshFD at h; rw [hj] at h; cases h
          match i, hop with
          | 0, hop =>
            injection hop with hop
            subst hop
            have e0 : ac.eval (.tmp 9) = .pointer (some ⟨E, 0, none⟩) := hk.same (s := 9) (by kernel_rfl)
            exact wpM_run (.pointer (some ⟨E, 5, none⟩)) W (by simp only [execOp, e0]; simp [go_sem]) ⟨_, rfl, ⟨fun h => hR1 (fun h' => h (.inr h')), fun h h' => hR2 (h.resolve_left (by decide)) (fun h'' => h' (.inr h''))⟩, fun u hu => hu (by simp), fun j _ _ _ _ u h => h⟩
          | 1, hop =>
            injection hop with hop
            subst hop
            have e0 : ac.eval (.tmp 131) = .pointer (some ⟨E, 5, none⟩) := hM 0 (by decide) (ready_up hi (by kernel_rfl)) (nd 0 rfl)
            have h9 : ¬ Up listed 9 := fun h => hni (hsh.up h (show Region.waitsFor .any _ 9 1 = true by kernel_rfl))
            have hW : W = w5.drew ∨ W = w5.drew.alloc (.cells (fldC ⟨bsOf y, v⟩).toArray 123) := by
              by_cases h8 : Up listed 8
              · exact .inr (hR2 h8 h9)
              · exact .inl (hR1 h8)
            have hl : (Instr.loadAt 67 (.pointer (some ⟨E, 5, none⟩))).run Tryz.prog W = .ok (.slice Av acc.length cv) W := by rcases hW with hW | hW <;> (subst hW; simp [go_sem, z5, z6])
            exact wpM_load _ _ _ (.slice Av acc.length cv) rfl e0 hl ⟨_, rfl, ⟨fun h => hR1 (fun h' => h (.inr h')), fun h h' => hR2 (h.resolve_left (by decide)) (fun h'' => h' (.inr h''))⟩, fun u hu => hu (by simp), fun j _ _ _ _ u h => h⟩
          | 2, hop =>
            injection hop with hop
            subst hop
            have e0 : ac.eval (.tmp 1) = .slice Ah hd.length ch := hk.same (s := 1) (by kernel_rfl)
            exact wpM_moveV _ _ rfl e0 ⟨_, rfl, ⟨fun h => hR1 (fun h' => h (.inr h')), fun h h' => hR2 (h.resolve_left (by decide)) (fun h'' => h' (.inr h''))⟩, fun u hu => hu (by simp), fun j _ _ _ _ u h => h⟩
          | 3, hop =>
            injection hop with hop
            subst hop
            have e0 : ac.eval (.tmp 14) = .int .i64 (d : Int) := hk.same (s := 14) (by kernel_rfl)
            exact wpM_moveV _ _ rfl e0 ⟨_, rfl, ⟨fun h => hR1 (fun h' => h (.inr h')), fun h h' => hR2 (h.resolve_left (by decide)) (fun h'' => h' (.inr h''))⟩, fun u hu => hu (by simp), fun j _ _ _ _ u h => h⟩
          | 4, hop =>
            injection hop with hop
            subst hop
            have e0 : ac.eval (.tmp 133) = .slice Ah hd.length ch := hM 2 (by decide) (ready_up hi (by kernel_rfl)) (nd 2 rfl)
            have e1 : ac.eval (.tmp 134) = .int .i64 (d : Int) := hM 3 (by decide) (ready_up hi (by kernel_rfl)) (nd 3 rfl)
            rw [HAH.out] at e0
            exact wpM_run (.pointer (some ⟨hb, ho + d, none⟩)) W (by simp only [execOp, e0, e1]; simp [go_sem, yi0, yi1]) ⟨_, rfl, ⟨fun h => hR1 (fun h' => h (.inr h')), fun h h' => hR2 (h.resolve_left (by decide)) (fun h'' => h' (.inr h''))⟩, fun u hu => hu (by simp), fun j _ _ _ _ u h => h⟩
          | 5, hop =>
            injection hop with hop
            subst hop
            have e0 : ac.eval (.tmp 135) = .pointer (some ⟨hb, ho + d, none⟩) := hM 4 (by decide) (ready_up hi (by kernel_rfl)) (nd 4 rfl)
            have h9 : ¬ Up listed 9 := fun h => hni (hsh.up (hsh.up (hsh.up h (show Region.waitsFor .any _ 9 8 = true by kernel_rfl)) (show Region.waitsFor .any _ 8 7 = true by kernel_rfl)) (show Region.waitsFor .any _ 7 5 = true by kernel_rfl))
            have hW : W = w5.drew ∨ W = w5.drew.alloc (.cells (fldC ⟨bsOf y, v⟩).toArray 123) := by
              by_cases h8 : Up listed 8
              · exact .inr (hR2 h8 h9)
              · exact .inl (hR1 h8)
            have hl : (Instr.loadAt 9 (.pointer (some ⟨hb, ho + d, none⟩))).run Tryz.prog W = .ok (.string (bsOf y)) W := by rcases hW with hW | hW <;> (subst hW; simp [go_sem, y5, y6])
            exact wpM_load _ _ _ (.string (bsOf y)) rfl e0 hl ⟨_, rfl, ⟨fun h => hR1 (fun h' => h (.inr h')), fun h h' => hR2 (h.resolve_left (by decide)) (fun h'' => h' (.inr h''))⟩, fun u hu => hu (by simp), fun j _ _ _ _ u h => h⟩
          | 6, hop =>
            injection hop with hop
            subst hop
            have e0 : ac.eval (.tmp 15) = .pointer (some ⟨T, 0, none⟩) := hk.same (s := 15) (by kernel_rfl)
            have h9 : ¬ Up listed 9 := fun h => hni (hsh.up (hsh.up (hsh.up h (show Region.waitsFor .any _ 9 8 = true by kernel_rfl)) (show Region.waitsFor .any _ 8 7 = true by kernel_rfl)) (show Region.waitsFor .any _ 7 6 = true by kernel_rfl))
            have hW : W = w5.drew ∨ W = w5.drew.alloc (.cells (fldC ⟨bsOf y, v⟩).toArray 123) := by
              by_cases h8 : Up listed 8
              · exact .inr (hR2 h8 h9)
              · exact .inl (hR1 h8)
            have hl : (Instr.loadAt 121 (.pointer (some ⟨T, 0, none⟩))).run Tryz.prog W = .ok (.agg #[.int .i64 v.kind, .int .i64 v.n, .string v.s]) W := by rcases hW with hW | hW <;> (subst hW; simp [go_sem, v0, v1, v2, u0, u1, u2])
            exact wpM_load _ _ _ (.agg #[.int .i64 v.kind, .int .i64 v.n, .string v.s]) rfl e0 hl ⟨_, rfl, ⟨fun h => hR1 (fun h' => h (.inr h')), fun h h' => hR2 (h.resolve_left (by decide)) (fun h'' => h' (.inr h''))⟩, fun u hu => hu (by simp), fun j _ _ _ _ u h => h⟩
          | 7, hop =>
            injection hop with hop
            subst hop
            have e0 : ac.eval (.tmp 136) = .string (bsOf y) := hM 5 (by decide) (ready_up hi (by kernel_rfl)) (nd 5 rfl)
            have e1 : ac.eval (.tmp 137) = .agg #[.int .i64 v.kind, .int .i64 v.n, .string v.s] := hM 6 (by decide) (ready_up hi (by kernel_rfl)) (nd 6 rfl)
            exact wpM_run (.agg #[.string (bsOf y), .int .i64 v.kind, .int .i64 v.n, .string v.s]) W (by generalize ac.eval = ρ at e0 e1 ⊢; simp only [execOp]; simp [e0, e1, go_sem]) ⟨_, rfl, ⟨fun h => hR1 (fun h' => h (.inr h')), fun h h' => hR2 (h.resolve_left (by decide)) (fun h'' => h' (.inr h''))⟩, fun u hu => hu (by simp), fun j _ _ _ _ u h => h⟩
          | 8, hop =>
            injection hop with hop
            subst hop
            have e0 : ac.eval (.tmp 138) = .agg #[.string (bsOf y), .int .i64 v.kind, .int .i64 v.n, .string v.s] := hM 7 (by decide) (ready_up hi (by kernel_rfl)) (nd 7 rfl)
            obtain rfl : W = w5.drew := hR1 hni
            have h9 : ¬ Up listed 9 := fun h => hni (hsh.up h (by kernel_rfl))
            have h11 : ¬ Up listed 11 := fun h => h9 (hsh.up h (by kernel_rfl))
            refine wpM_slice _ _ _ (.slice (some ⟨w5.heap.size, 0, none⟩) 1 1) _ #[(0, .agg #[.string (bsOf y), .int .i64 v.kind, .int .i64 v.n, .string v.s])] rfl (by simp [e0]) (bsFld (bsOf y) v _) ⟨_, rfl, ⟨fun h => absurd (.inl rfl) h, fun _ _ => rfl⟩, fun u hu => hu (by simp), fun j hj hji hu _ u h => ?_⟩
            match j, hj, hu, h with
            | 0, _, _, h => exact h
            | 1, _, _, h => exact h
            | 2, _, _, h => exact h
            | 3, _, _, h => exact h
            | 4, _, _, h => exact h
            | 5, _, _, h => exact h
            | 6, _, _, h => exact h
            | 7, _, _, h => exact h
            | 8, _, _, h => exact h
            | 9, _, hu, _ => exact absurd hu h9
            | 10, _, _, h => exact h
            | 11, _, hu, _ => exact absurd hu h11
            | n + 12, hj, _, _ => exact absurd hj (by simp)
          | 9, hop =>
            injection hop with hop
            subst hop
            have e0 : ac.eval (.tmp 132) = .slice Av acc.length cv := hM 1 (by decide) (ready_up hi (by kernel_rfl)) (nd 1 rfl)
            have e1 : ac.eval (.tmp 139) = .slice (some ⟨w5.heap.size, 0, none⟩) 1 1 := hM 8 (by decide) (ready_up hi (by kernel_rfl)) (nd 8 rfl)
            have u8 := ready_up hi (show Region.waitsFor .any _ 9 8 = true by kernel_rfl)
            obtain rfl : W = w5.drew.alloc (.cells (fldC ⟨bsOf y, v⟩).toArray 123) := hR2 u8 hni
            have h11 : ¬ Up listed 11 := fun h => hni (hsh.up h (by kernel_rfl))
            refine wp_push appFld (.tmp 132) (.tmp 139) rfl w5.drew (fldC ⟨bsOf y, v⟩) rfl (fldC_one _) _ acc.length (flat fldC acc) e0 hO5 e1 hol hs5 ?_
            intro v' w' hown hgr hat
            have hP9 := HPU.out _ _ hown hgr
            refine ⟨_, rfl, ⟨fun h => absurd (.inr u8) h, fun _ h => absurd (.inl rfl) h⟩, fun u hu => by rw [hu (by simp)]; exact hP9, fun j hj hji hu _ u h => ?_⟩
            match j, hj, hji, hu, h with
            | 0, _, _, _, h => exact h
            | 1, _, _, _, h => exact h
            | 2, _, _, _, h => exact h
            | 3, _, _, _, h => exact h
            | 4, _, _, _, h => exact h
            | 5, _, _, _, h => exact h
            | 6, _, _, _, h => exact h
            | 7, _, _, _, h => exact h
            | 8, _, _, _, h => exact h
            | 9, _, hji, _, _ => exact absurd rfl hji
            | 10, _, _, _, h => exact h
            | 11, _, _, hu, _ => exact absurd hu h11
            | n + 12, hj, _, _, _ => exact absurd hj (by simp)
          | 10, hop =>
            injection hop with hop
            subst hop
            have e0 : ac.eval (.tmp 9) = .pointer (some ⟨E, 0, none⟩) := hk.same (s := 9) (by kernel_rfl)
            exact wpM_run (.pointer (some ⟨E, 5, none⟩)) W (by simp only [execOp, e0]; simp [go_sem]) ⟨_, rfl, ⟨fun h => hR1 (fun h' => h (.inr h')), fun h h' => hR2 (h.resolve_left (by decide)) (fun h'' => h' (.inr h''))⟩, fun u hu => hu (by simp), fun j _ _ _ _ u h => h⟩
          | 11, hop =>
            injection hop with hop
            subst hop
            have e0 : ac.eval (.tmp 141) = .pointer (some ⟨E, 5, none⟩) := hM 10 (by decide) (ready_up hi (by kernel_rfl)) (nd 10 rfl)
            have u9 := ready_up hi (show Region.waitsFor .any _ 11 9 = true by kernel_rfl)
            have u8 := hsh.up u9 (show Region.waitsFor .any _ 9 8 = true by kernel_rfl)
            have hP9 := hM 9 (by decide) u9 (fun k h => by unfold pshFD at h; have h : k = 11 := (by simpa using h); rw [h]; exact hni)
            obtain ⟨A', c', hv9, hE9, hF9, hO9, hB9, hS9⟩ := hP9
            have hvn : ac.eval (.tmp 140) = .slice A' (acc ++ [(⟨bsOf y, v⟩ : Fld)]).length c' := hv9
            have hF9 : Blk (W.setCell ⟨E, 5, none⟩ (ac.eval (.tmp 140))) E 69 #[.string sa, .string sb, .string (bsOf ρ), .int .i64 L, .int .i64 pt, ac.eval (.tmp 140)] := hF9
            have hcl := hE9.c6.2.2.2.2.2
            have hfz := hE9.frozen 5
            have hO9 : OwnFl (W.setCell ⟨E, 5, none⟩ (ac.eval (.tmp 140))) w8.heap.size (ac.eval (.tmp 140)) (acc ++ [(⟨bsOf y, v⟩ : Fld)]) := hO9
            have hB9 : Below E w3 (W.setCell ⟨E, 5, none⟩ (ac.eval (.tmp 140))) := hB9
            have hS9 : w5.heap.size ≤ (W.setCell ⟨E, 5, none⟩ (ac.eval (.tmp 140))).heap.size := hS9
            rw [hvn] at hF9 hO9 hB9 hS9
            refine wpM_store _ _ _ _ _ (W.setCell ⟨E, 5, none⟩ (.slice A' (acc ++ [(⟨bsOf y, v⟩ : Fld)]).length c')) () rfl e0 hvn (by simp [go_sem, hcl, hfz]) ⟨_, rfl, ⟨fun h => absurd (.inr u8) h, fun _ h => absurd (.inr u9) h⟩, fun u _ => ⟨A', c', hF9, hO9, hB9, hS9⟩, fun j hj hji hu hd u h => ?_⟩
            match j, hj, hji, hd, h with
            | 0, _, _, _, h => exact h
            | 1, _, _, _, h => exact h
            | 2, _, _, _, h => exact h
            | 3, _, _, _, h => exact h
            | 4, _, _, _, h => exact h
            | 5, _, _, _, h => exact h
            | 6, _, _, _, h => exact h
            | 7, _, _, _, h => exact h
            | 8, _, _, _, h => exact h
            | 9, _, _, hd, _ => exact absurd hd (by decide)
            | 10, _, _, _, h => exact h
            | 11, _, hji, _, _ => exact absurd rfl hji
            | n + 12, hj, _, _, _ => exact absurd hj (by simp)
          | n + 12, hop => simp at hop
        case hend =>
          intro ac W U hk hR hM
          have h11 := hM 11 (by decide) (fun k => rfl)
          obtain ⟨A7, c7, hE7, hO7, hB7, hS7⟩ := h11
          have HE7 := Lib.hid hE7
          have HO7 := Lib.hid hO7
          have HB7 := Lib.hid hB7
          have HS7 := Lib.hid hS7
          clear hE7 hO7 hB7 hS7 z5 z6 y5 y6 v0 v1 v2 u0 u1 u2 hO5 hs5
          rw [hk.form (by kernel_rfl)]
          simp only [putsAll, Option.getD_some, Act.put, List.setIfInBounds_toArray, List.set_cons_zero, List.set_cons_succ]
          go_wp2_with fail
          go_roundw
          case rel => exact ⟨q + 1, acc ++ [⟨bsOf y, v⟩], _, by go_num, by omega, HE7, HO7, HFX, HPN, HB7, Lib.hid (Nat.le_trans HS5.out HS7.out)⟩
          case measure => simp [intOf]; omega
    · have hqe : q = m.data.length := by omega
      have hq1 : ¬ (q : Int) < (m.data.length : Int) := by omega
      have HPE : Hid (p = (⟨sa, sb, bsOf ρ, L, pt, sortS nlt acc⟩, 0, 0)) := by
        show _ = _
        rw [HPr.out, hqe, List.drop_eq_nil_of_le (by rw [List.length_zip]; omega), HEND.out]
        rfl
      have HFA : Hid (FldsOk hd m.data acc) := Lib.hid (by have := HFr.out; rwa [hqe, List.take_of_length_le (Nat.le_refl _)] at this)
      haveI : Inhabited Fld := ⟨⟨⟨#[]⟩, noV⟩⟩
      have HNA : Hid ((acc.map nmOf).Nodup) := Lib.hid (HFA.out.sub.nodup HND.out)
      have HSF := Lib.hid (sortFl_any HOr.out HNA.out (by have := HAL.out; omega))
      have HFF : Hid (∀ f ∈ sortS nlt acc, FitFl f) := Lib.hid fun f hf => HFA.out.fit HHL.out f ((perm_sortS (lt := nlt) acc).mem_iff.1 hf)
      clear hqe hlt HPr HFr
      obtain ⟨c0, c1, c2, c3, c4, c5, c6, c7⟩ := (HMX.out wo HBr.out).c8m
      obtain ⟨e0, e1, e2, e3, e4, e5⟩ := HEr.out.c6
      obtain ⟨r0, r1, r2, r3, r4, r5⟩ := (HRX.out wo HBr.out).c6
      have f0 := (HRX.out wo HBr.out).frozen 0
      have f1 := (HRX.out wo HBr.out).frozen 1
      have f2 := (HRX.out wo HBr.out).frozen 2
      have f3 := (HRX.out wo HBr.out).frozen 3
      have f4 := (HRX.out wo HBr.out).frozen 4
      have f5 := (HRX.out wo HBr.out).frozen 5
      go_wp2_with fail
      (with_reducible refine HSF.out.mono ?_)
      rintro _ w9 ⟨rfl, hso, hgr⟩
      have hne : some E ≠ (Value.slice Av acc.length cv).ownBlock := fun e => by have h1 := (World.ownsRow.lt HOr.out _ e.symm).1; have := HEL.out; omega
      have HE9 := Lib.hid (HEr.out.grown hgr hne)
      have HB9 : Hid (Below E w3 w9) := Lib.hid (HBr.out.grown hgr (Nat.le_of_lt HEr.out.lt) (fun g e => by have h1 := (World.ownsRow.lt HOr.out _ e).1; have := HEL.out; omega))
      have HS9 : Hid (OwnFl w9 w8.heap.size (.slice Av acc.length cv) (sortS nlt acc)) := Lib.hid hso
      clear hso hgr hne HSF c0 c1 c2 c3 c4 c5 c6 c7 e0 e1 e2 e3 e4 e5 r0 r1 r2 r3 r4 r5 f0 f1 f2 f3 f4 f5 HEr HBr HOr
      obtain ⟨c0, c1, c2, c3, c4, c5, c6, c7⟩ := (HMX.out w9 HB9.out).c8m
      obtain ⟨e0, e1, e2, e3, e4, e5⟩ := HE9.out.c6
      obtain ⟨r0, r1, r2, r3, r4, r5⟩ := (HRX.out w9 HB9.out).c6
      have f0 := (HRX.out w9 HB9.out).frozen 0
      have f1 := (HRX.out w9 HB9.out).frozen 1
      have f2 := (HRX.out w9 HB9.out).frozen 2
      have f3 := (HRX.out w9 HB9.out).frozen 3
      have f4 := (HRX.out w9 HB9.out).frozen 4
      have f5 := (HRX.out w9 HB9.out).frozen 5
      go_wp2_with fail
      have hz := (HRX.out w9 HB9.out).put6 (.string sa) (.string sb) (.string (bsOf ρ)) (.int .i64 L) (.int .i64 pt) ((.slice Av acc.length cv))
      have hbz := below6 (HBX.out w9 HB9.out) (show w.heap.size ≤ w.heap.size + 1 by omega) (.string sa) (.string sb) (.string (bsOf ρ)) (.int .i64 L) (.int .i64 pt) ((.slice Av acc.length cv))
      obtain ⟨wz, hwz⟩ : ∃ wz, ((((((w9.setCell ⟨w.heap.size + 1, 0, none⟩ (.string sa)).setCell ⟨w.heap.size + 1, 1, none⟩ (.string sb)).setCell ⟨w.heap.size + 1, 2, none⟩ (.string (bsOf ρ))).setCell ⟨w.heap.size + 1, 3, none⟩ (.int .i64 L)).setCell ⟨w.heap.size + 1, 4, none⟩ (.int .i64 pt)).setCell ⟨w.heap.size + 1, 5, none⟩ ((.slice Av acc.length cv))) = wz := ⟨_, rfl⟩
      rw [hwz] at hz hbz ⊢
      have hwz' := hwz
      clear hwz
      obtain ⟨q0, q1, q2, q3, q4, q5⟩ := hz.c6
      refine bodyPost_ret (v := .tuple #[.agg #[.string sa, .string sb, .string (bsOf ρ), .int .i64 L, .int .i64 pt, (.slice Av acc.length cv)], .int .i64 0, .int .i64 0]) (by simp [results, Tryz.results54, go_sem, q0, q1, q2, q3, q4, q5]) rfl ?_
      show RetEv _ _ _ _
      rw [HPE.out]
      have hfit : FitEv ⟨sa, sb, bsOf ρ, L, pt, sortS nlt acc⟩ := ⟨by have := HSA2.out; show sa.size ≤ maxLen; unfold maxLen; omega, by have := HSB2.out; show sb.size ≤ maxLen; unfold maxLen; omega, by have := HRO.out; show (bsOf ρ).size ≤ maxLen; rw [bs_size]; unfold maxLen; omega, by have := HLL.out; show Fit L; unfold Fit; omega, by have := HNF.out; show Fit pt; unfold Fit; omega⟩
      have hown := own_kept6 HS9.out (show w.heap.size + 1 < w8.heap.size by have := HEL.out; have := HEW.out; omega) (.string sa) (.string sb) (.string (bsOf ρ)) (.int .i64 L) (.int .i64 pt) (.slice Av acc.length cv)
      rw [hwz'] at hown
      exact ⟨_, rfl, ⟨_, _, _, _, _, _, _, _, rfl, fun _ => ⟨rfl, hfit, own_low hown (by have := HEL.out; have := HEW.out; omega), HFF.out⟩⟩, hbz⟩
end Go.Proofs.YtoalecalahkblaaGreatDoor
