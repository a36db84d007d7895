/- Texts of this seat, merged. -/
import Derived.Test.YtoalecalahkblaaGreatDoorIl01
import Derived.Test.YtoalecalahkblaaGreatDoorIl02
import Derived.Test.YtoalecalahkblaaGreatDoorIl03
import Derived.Test.YtoalecalahkblaaGreatDoorIl04
import Derived.Test.YtoalecalahkblaaGreatDoorIl05
import Derived.Test.YtoalecalahkblaaGreatDoorIl06
import Derived.Test.YtoalecalahkblaaGreatDoorIl07
import Derived.Test.YtoalecalahkblaaGreatDoorIl08
import Derived.Test.YtoalecalahkblaaGreatDoorIl09
import Derived.Test.YtoalecalahkblaaGreatDoorIl10
import Derived.Test.YtoalecalahkblaaGreatDoorIl11
import Derived.Test.YtoalecalahkblaaGreatDoorIl12
import Derived.Test.YtoalecalahkblaaGreatDoorIl13
import Derived.Test.YtoalecalahkblaaGreatDoorIl14
import Derived.Test.YtoalecalahkblaaGreatDoorIl15
import Derived.Test.YtoalecalahkblaaGreatDoorIl16
set_option linter.all false
set_option linter.all false
namespace Go.Proofs.YtoalecalahkblaaGreatDoor
open Go.RowKit
theorem enters_header : ∀ args w, (callFunc 53 args).run Tryz.prog w = .ok (.enter 53 args) w := enters_of Tryz.func53 (by kernel_rfl) rfl
theorem enters_event : ∀ args w, (callFunc 54 args).run Tryz.prog w = .ok (.enter 54 args) w := enters_of Tryz.func54 (by kernel_rfl) rfl
theorem alP (W : World) : (Instr.alloc 40 true (.tuple #[])).run Tryz.prog W = .ok (.pointer (some ⟨W.heap.size, 0, none⟩)) (W.alloc (.cells #[.int .i64 0, .int .i64 0] 40)) := by kernel_rfl
def RetImp (p : List Ev × (Int × Int) × Int) (w : World) (e : Ending) (w' : World) : Prop := ∃ lv, e = .returned (.tuple #[.agg #[lv], .agg #[.int .i64 p.2.1.1, .int .i64 p.2.1.2], .int .i64 p.2.2]) ∧ SlEv (Lt w'.heap.size) w' lv p.1 ∧ Below w.heap.size w w'
theorem put_op {w W : World} {B o p t u : Nat} {x y z : Value} (hO : Blk W o t #[x]) (hP : Blk W p u #[y, z]) (hne : o ≠ p) (hb : Below B w W) (h1 : B ≤ o) (h2 : B ≤ p) (v a b : Value) :
    Blk (((W.setCell ⟨o, 0, none⟩ v).setCell ⟨p, 0, none⟩ a).setCell ⟨p, 1, none⟩ b) o t #[v] ∧ Blk (((W.setCell ⟨o, 0, none⟩ v).setCell ⟨p, 0, none⟩ a).setCell ⟨p, 1, none⟩ b) p u #[a, b] ∧ Below B w (((W.setCell ⟨o, 0, none⟩ v).setCell ⟨p, 0, none⟩ a).setCell ⟨p, 1, none⟩ b) :=
  ⟨((hO.set_ 0 v).far (p := ⟨p, 0, none⟩) hne a).far (p := ⟨p, 1, none⟩) hne b, ((hP.far (p := ⟨o, 0, none⟩) (fun e => hne e.symm) v).set_ 0 a).set_ 1 b,
    ((hb.setCell (p := ⟨o, 0, none⟩) h1 v).setCell (p := ⟨p, 0, none⟩) h2 a).setCell (p := ⟨p, 1, none⟩) h2 b⟩
theorem set2_new (w : World) (t : TypeId) (x y a b : Value) : ((w.alloc (.cells #[x, y] t)).setCell ⟨w.heap.size, 0, none⟩ a).setCell ⟨w.heap.size, 1, none⟩ b = w.alloc (.cells #[a, b] t) := by simp [go_sem]
theorem ownFl_ne {w : World} {base g : Nat} {v : Value} {L : List Fld} {cs : Array Value} (h : OwnFl w base v L) (hb : Blk w g 69 cs) : v.ownBlock ≠ some g := by
  intro e
  rcases h.2 with ⟨rfl, _⟩ | ⟨g', cap, cur, rfl, _, h3, _⟩
  · cases e
  · injection e with e
    have e : g' = g := e
    subst e
    unfold Blk at hb
    rw [h3] at hb
    injection hb with hb
    injection hb with _ hb _
    exact absurd hb (by decide)
theorem EvV.low {B G : Nat} {p : Ev × Int × Int} {ev : Value} {W : World} (h : EvV G p ev W) (hG : B ≤ G) : EvV B p ev W := by
  obtain ⟨sa, sb, sc, d, t, A, n, c, h1, h2⟩ := h
  refine ⟨sa, sb, sc, d, t, A, n, c, h1, fun h0 => ?_⟩
  obtain ⟨a1, a2, a3, a4⟩ := h2 h0
  exact ⟨a1, a2, own_low a3 hG, a4⟩
theorem EvV.put {G g : Nat} {p : Ev × Int × Int} {ev : Value} {W : World} {cs : Array Value} (h : EvV G p ev W) (hg : Blk W g 69 cs) (a b c d e f : Value) : EvV G p ev ((((((W.setCell ⟨g, 0, none⟩ a).setCell ⟨g, 1, none⟩ b).setCell ⟨g, 2, none⟩ c).setCell ⟨g, 3, none⟩ d).setCell ⟨g, 4, none⟩ e).setCell ⟨g, 5, none⟩ f) := by
  obtain ⟨sa, sb, sc, xd, t, A, n, k, h1, h2⟩ := h
  refine ⟨sa, sb, sc, xd, t, A, n, k, h1, fun h0 => ?_⟩
  obtain ⟨a1, a2, a3, a4⟩ := h2 h0
  refine ⟨a1, a2, ?_, a4⟩
  have hne := ownFl_ne a3 hg
  refine World.ownsRow.kept a3 (Chg.grown (R := g) ((((((Chg.refl.set (p := ⟨g, 0, none⟩) (.inr (show One g g from rfl)) a).set (p := ⟨g, 1, none⟩) (.inr (show One g g from rfl)) b).set (p := ⟨g, 2, none⟩) (.inr (show One g g from rfl)) c).set (p := ⟨g, 3, none⟩) (.inr (show One g g from rfl)) d).set (p := ⟨g, 4, none⟩) (.inr (show One g g from rfl)) e).set (p := ⟨g, 5, none⟩) (.inr (show One g g from rfl)) f)) ?_
  exact .inr (fun e => hne e)
def hdF (m : Mp) (rb ro rl rcap hn hcp M dn cd kn ck : Nat) (Ah Ad Ak : Option Addr) (z x y c : Int) : Nat → (Nat → Value) → World → Prop
  | 0, τ, _ => τ 0 = .slice (some ⟨rb, ro, none⟩) rl rcap
  | 1, τ, _ => τ 1 = .pointer (some ⟨rb, ro, none⟩)
  | 2, τ, _ => τ 2 = .slice Ah hn hcp
  | 3, τ, _ => τ 3 = .agg #[.int .i64 m.cas, .int .i64 m.act, .int .i64 m.res, .int .i64 m.life, .int .i64 m.time, .slice Ad dn cd, .slice Ak kn ck, .int .u8 z]
  | 4, τ, _ => τ 4 = .tuple #[.agg #[.int .i64 x, .int .i64 y], .int .i64 c]
  | 5, τ, _ => τ 5 = .tuple #[.agg #[.int .i64 x, .int .i64 y], .int .i64 c]
  | 6, τ, _ => τ 6 = .agg #[.int .i64 x, .int .i64 y]
  | 7, τ, _ => τ 7 = .int .i64 c
  | 8, τ, W => ∃ p : Nat, τ 8 = .pointer (some ⟨p, 0, none⟩) ∧ ∃ a b, Blk W p 40 #[a, b]
  | 9, τ, W => ∃ p : Nat, τ 8 = .pointer (some ⟨p, 0, none⟩) ∧ Blk W p 40 #[.int .i64 x, .int .i64 y]
  | 10, τ, _ => τ 10 = .int .i64 c
  | _, _, _ => True
theorem hdF_keep {m : Mp} {rb ro rl rcap hn hcp M dn cd kn ck : Nat} {Ah Ad Ak : Option Addr} {z x y c : Int} {listed : Array Bool} {i : Nat} {τ τ' : Nat → Value} {W W' : World} (hup9 : Up listed 9 → Up listed 8) (hi : ¬ Up listed i) (ht : ∀ j, j < 11 → j ≠ i → τ' j = τ j) (hb : Below W.heap.size W W')
    (hf : ∀ j, j < 11 → Up listed j → hdF m rb ro rl rcap hn hcp M dn cd kn ck Ah Ad Ak z x y c j τ W) : ∀ j, j < 11 → j ≠ i → Up listed j → hdF m rb ro rl rcap hn hcp M dn cd kn ck Ah Ad Ak z x y c j τ' W' := by
  intro j hj hji hu
  match j, hj with
  | 0, _ =>
    exact (ht 0 (by decide) hji).trans (hf 0 (by decide) hu)
  | 1, _ =>
    exact (ht 1 (by decide) hji).trans (hf 1 (by decide) hu)
  | 2, _ =>
    exact (ht 2 (by decide) hji).trans (hf 2 (by decide) hu)
  | 3, _ =>
    exact (ht 3 (by decide) hji).trans (hf 3 (by decide) hu)
  | 4, _ =>
    exact (ht 4 (by decide) hji).trans (hf 4 (by decide) hu)
  | 5, _ =>
    exact (ht 5 (by decide) hji).trans (hf 5 (by decide) hu)
  | 6, _ =>
    exact (ht 6 (by decide) hji).trans (hf 6 (by decide) hu)
  | 7, _ =>
    exact (ht 7 (by decide) hji).trans (hf 7 (by decide) hu)
  | 8, _ =>
    obtain ⟨p, e, a, b, h⟩ := hf 8 (by decide) hu
    exact ⟨p, (ht 8 (by decide) hji).trans e, a, b, h.now hb⟩
  | 9, _ =>
    obtain ⟨p, e, h⟩ := hf 9 (by decide) hu
    exact ⟨p, (ht 8 (by decide) (fun e => hi (e ▸ hup9 hu))).trans e, h.now hb⟩
  | 10, _ =>
    exact (ht 10 (by decide) hji).trans (hf 10 (by decide) hu)
  | n + 11, hj => exact absurd hj (by omega)
def hdF_mk (i : Nat) : Bool := i == 8
def evnF (m : Mp) (rb ro rl rcap hn hcp rn cr1 M dn cd kn ck G : Nat) (Ah Ad Ak Ar1 : Option Addr) (z : Int) (p : Ev × Int × Int) : Nat → (Nat → Value) → World → Prop
  | 0, τ, _ => τ 0 = .slice Ar1 rn cr1
  | 1, τ, _ => τ 1 = .slice (some ⟨rb, ro, none⟩) rl rcap
  | 2, τ, _ => τ 2 = .pointer (some ⟨rb, ro, none⟩)
  | 3, τ, _ => τ 3 = .slice Ah hn hcp
  | 4, τ, _ => τ 4 = .agg #[.int .i64 m.cas, .int .i64 m.act, .int .i64 m.res, .int .i64 m.life, .int .i64 m.time, .slice Ad dn cd, .slice Ak kn ck, .int .u8 z]
  | 5, τ, W => ∃ ev, τ 5 = .tuple #[ev, .int .i64 p.2.1, .int .i64 p.2.2] ∧ EvV G p ev W
  | 6, τ, W => ∃ ev, τ 6 = .tuple #[ev, .int .i64 p.2.1, .int .i64 p.2.2] ∧ EvV G p ev W
  | 7, τ, W => EvV G p (τ 7) W
  | 8, τ, _ => τ 8 = .int .i64 p.2.1
  | 9, τ, _ => τ 9 = .int .i64 p.2.2
  | 10, τ, W => ∃ p : Nat, τ 10 = .pointer (some ⟨p, 0, none⟩) ∧ ∃ a b c d u v, Blk W p 69 #[a, b, c, d, u, v]
  | 11, τ, W => ∃ q : Nat, τ 10 = .pointer (some ⟨q, 0, none⟩) ∧ ∃ cs, Blk W q 69 cs ∧ EvV G p (.agg cs) W
  | 12, τ, _ => τ 12 = .int .i64 p.2.1
  | 13, τ, _ => τ 13 = .int .i64 p.2.2
  | _, _, _ => True
theorem evnF_keep {m : Mp} {rb ro rl rcap hn hcp rn cr1 M dn cd kn ck G : Nat} {Ah Ad Ak Ar1 : Option Addr} {z : Int} {p : Ev × Int × Int} {listed : Array Bool} {i : Nat} {τ τ' : Nat → Value} {W W' : World} (hup11 : Up listed 11 → Up listed 10) (hi : ¬ Up listed i) (ht : ∀ j, j < 14 → j ≠ i → τ' j = τ j) (hb : Below W.heap.size W W')
    (hf : ∀ j, j < 14 → Up listed j → evnF m rb ro rl rcap hn hcp rn cr1 M dn cd kn ck G Ah Ad Ak Ar1 z p j τ W) : ∀ j, j < 14 → j ≠ i → Up listed j → evnF m rb ro rl rcap hn hcp rn cr1 M dn cd kn ck G Ah Ad Ak Ar1 z p j τ' W' := by
  intro j hj hji hu
  match j, hj with
  | 0, _ =>
    exact (ht 0 (by decide) hji).trans (hf 0 (by decide) hu)
  | 1, _ =>
    exact (ht 1 (by decide) hji).trans (hf 1 (by decide) hu)
  | 2, _ =>
    exact (ht 2 (by decide) hji).trans (hf 2 (by decide) hu)
  | 3, _ =>
    exact (ht 3 (by decide) hji).trans (hf 3 (by decide) hu)
  | 4, _ =>
    exact (ht 4 (by decide) hji).trans (hf 4 (by decide) hu)
  | 5, _ =>
    obtain ⟨ev, e, h⟩ := hf 5 (by decide) hu
    exact ⟨ev, (ht 5 (by decide) hji).trans e, h.now hb⟩
  | 6, _ =>
    obtain ⟨ev, e, h⟩ := hf 6 (by decide) hu
    exact ⟨ev, (ht 6 (by decide) hji).trans e, h.now hb⟩
  | 7, _ =>
    have h := hf 7 (by decide) hu
    show EvV G p (τ' 7) W'
    rw [ht 7 (by decide) hji]
    exact h.now hb
  | 8, _ =>
    exact (ht 8 (by decide) hji).trans (hf 8 (by decide) hu)
  | 9, _ =>
    exact (ht 9 (by decide) hji).trans (hf 9 (by decide) hu)
  | 10, _ =>
    obtain ⟨p, e, a, b, c, d, u, v, h⟩ := hf 10 (by decide) hu
    exact ⟨p, (ht 10 (by decide) hji).trans e, a, b, c, d, u, v, h.now hb⟩
  | 11, _ =>
    obtain ⟨q, e, cs, h, h2⟩ := hf 11 (by decide) hu
    exact ⟨q, (ht 10 (by decide) (fun e => hi (e ▸ hup11 hu))).trans e, cs, h.now hb, h2.now hb⟩
  | 12, _ =>
    exact (ht 12 (by decide) hji).trans (hf 12 (by decide) hu)
  | 13, _ =>
    exact (ht 13 (by decide) hji).trans (hf 13 (by decide) hu)
  | n + 14, hj => exact absurd hj (by omega)
def evnF_mk (i : Nat) : Bool := i == 10
set_option maxHeartbeats 8000000 in
set_option maxRecDepth 100000 in
theorem import_any (s : ByteArray) (u : Value) (m : Mp) (w : World) (hsz : s.size ≤ 9223372036854775807) (h : IsMp (Lt w.heap.size) w u m) (hbd : m.data.length ≤ 1000000) (ha : AmbP w) :
    Calls Tryz.prog 16 #[.string s, u] w (RetImp (impE s.data.toList m) w) := by
  have HMP := Lib.hid h
  have HAM := Lib.hid ha
  have HV := Lib.hid (fun W hW => valid_any u m W hW hbd)
  have HC := Lib.hid (fun W => cells_any s m.sep W hsz)
  have HEVT := Lib.hid (fun r hd rv hv W h1 h2 h3 h4 h5 h6 h7 h8 h9 h10 => event_any r hd rv hv u m W h1 h2 h3 h4 h5 h6 h7 h8 h9 h10)
  have HHD := Lib.hid (fun r rv W h1 h2 h3 => header_any r rv u m W h1 h2 h3)
  have HCL := Lib.hid (cells_le m.sep s.data.toList)
  obtain ⟨dv, kv, rfl, hfm, hmd, hmk⟩ := h
  obtain ⟨Ad, cd, rfl, _, _, hmd⟩ := hmd.open_
  obtain ⟨Ak, ck, rfl, _, _, hmk⟩ := hmk.open_
  unfold mpV at HMP HV HEVT HHD ⊢
  obtain ⟨z, hz⟩ : ∃ z, (m.sep.toNat : Int) = z := ⟨_, rfl⟩
  rw [hz] at HMP HV HEVT HHD ⊢
  have HC : Hid (∀ W, Calls Tryz.prog 22 #[.string s, .int .u8 z] W (RetRows (cellsE m.sep s.data.toList) W)) := Lib.hid (fun W => by have := HC.out W; rwa [hz] at this)
  obtain ⟨p, hp⟩ : ∃ p, impE s.data.toList m = p := ⟨_, rfl⟩
  have HE : Hid (p = if mapB m = true then if (cellsE m.sep s.data.toList).2.2 = 0 then impT m (cellsE m.sep s.data.toList).1 else ([], (cellsE m.sep s.data.toList).2.1, (cellsE m.sep s.data.toList).2.2) else ([], (0, 0), 1)) := by show _ = _; rw [← hp]; rfl
  rw [hp]
  have HOKQ : Hid (mapB m = true → MpOk m) := Lib.hid mpOk
  obtain ⟨q, hq⟩ : ∃ q, mapB m = q := ⟨_, rfl⟩
  have HV : Hid (∀ W, IsMp (Lt W.heap.size) W (.agg #[.int .i64 m.cas, .int .i64 m.act, .int .i64 m.res, .int .i64 m.life, .int .i64 m.time, .slice Ad m.data.length cd, .slice Ak m.kinds.length ck, .int .u8 z]) m → Calls Tryz.prog 18 #[.agg #[.int .i64 m.cas, .int .i64 m.act, .int .i64 m.res, .int .i64 m.life, .int .i64 m.time, .slice Ad m.data.length cd, .slice Ak m.kinds.length ck, .int .u8 z]] W fun e w' => e = .returned (.bool q) ∧ Below W.heap.size W w') := Lib.hid (fun W hW => by have := HV.out W hW; rwa [hq] at this)
  rw [hq] at HE HOKQ
  obtain ⟨cr, hcr⟩ : ∃ cr, cellsE m.sep s.data.toList = cr := ⟨_, rfl⟩
  rw [hcr] at HE HC HCL
  obtain ⟨rows, ⟨pa, pb⟩, pc⟩ := cr
  dsimp only at HE HCL
  clear hfm hmd hmk hz hp hq hcr hbd ha
  -- the boxes
  have hb1 := bone w (.cells #[.int .i64 m.cas, .int .i64 m.act, .int .i64 m.res, .int .i64 m.life, .int .i64 m.time, .slice Ad m.data.length cd, .slice Ak m.kinds.length ck, .int .u8 z] 33)
  have hB1 := Blk.new w 33 #[.int .i64 m.cas, .int .i64 m.act, .int .i64 m.res, .int .i64 m.life, .int .i64 m.time, .slice Ad m.data.length cd, .slice Ak m.kinds.length ck, .int .u8 z]
  have hs1 : (w.alloc (.cells #[.int .i64 m.cas, .int .i64 m.act, .int .i64 m.res, .int .i64 m.life, .int .i64 m.time, .slice Ad m.data.length cd, .slice Ak m.kinds.length ck, .int .u8 z] 33)).heap.size = w.heap.size + 1 := by simp
  obtain ⟨w1, hw1⟩ : ∃ w1, w.alloc (.cells #[.int .i64 m.cas, .int .i64 m.act, .int .i64 m.res, .int .i64 m.life, .int .i64 m.time, .slice Ad m.data.length cd, .slice Ak m.kinds.length ck, .int .u8 z] 33) = w1 := ⟨_, rfl⟩
  rw [hw1] at hb1 hB1 hs1
  have hb2 := bone w1 (.cells #[.slice none 0 0] 38)
  have hB2 := Blk.new w1 38 #[.slice none 0 0]
  have hs2 : (w1.alloc (.cells #[.slice none 0 0] 38)).heap.size = w.heap.size + 1 + 1 := by simp [hs1]
  rw [hs1] at hB2
  obtain ⟨w2, hw2⟩ : ∃ w2, w1.alloc (.cells #[.slice none 0 0] 38) = w2 := ⟨_, rfl⟩
  rw [hw2] at hb2 hB2 hs2
  have hb3 := bone w2 (.cells #[.int .i64 0, .int .i64 0] 40)
  have hB3 := Blk.new w2 40 #[.int .i64 0, .int .i64 0]
  have hs3 : (w2.alloc (.cells #[.int .i64 0, .int .i64 0] 40)).heap.size = w.heap.size + 1 + 1 + 1 := by simp [hs2]
  rw [hs2] at hB3
  obtain ⟨w3, hw3⟩ : ∃ w3, w2.alloc (.cells #[.int .i64 0, .int .i64 0] 40) = w3 := ⟨_, rfl⟩
  rw [hw3] at hB3 hs3 hb3
  have HW : Hid (((w.alloc (.cells #[.int .i64 m.cas, .int .i64 m.act, .int .i64 m.res, .int .i64 m.life, .int .i64 m.time, .slice Ad m.data.length cd, .slice Ak m.kinds.length ck, .int .u8 z] 33)).alloc (.cells #[.slice none 0 0] 38)).alloc (.cells #[.int .i64 0, .int .i64 0] 40) = w3) := by show _ = _; rw [hw1, hw2, hw3]
  have HB3 := Lib.hid (bthen (bthen hb1 hb2) hb3)
  have HM3 := Lib.hid ((hB1.now hb2).now hb3)
  have HO3 := Lib.hid (hB2.now hb3)
  have HP3 := Lib.hid hB3
  have HS3 := Lib.hid hs3
  clear hb1 hB1 hs1 hw1 hb2 hB2 hs2 hw2 hb3 hB3 hs3 hw3
  go_enter Tryz.func16, Tryz.ntmps16
  go_upto_region 1 with fail
  rw [HW.out]
  clear HW
  obtain ⟨c0, c1, c2, c3, c4, c5, c6, c7⟩ := HM3.out.c8m
  go_wp2_with fail
  (with_reducible refine (HV.out _ (HMP.out.now HB3.out)).mono ?_)
  rintro _ w4 ⟨rfl, hb4⟩
  have HB4 := Lib.hid (bthen HB3.out hb4)
  have HM4 := Lib.hid (HM3.out.now hb4)
  have HO4 := Lib.hid (HO3.out.now hb4)
  have HP4 := Lib.hid (HP3.out.now hb4)
  clear c0 c1 c2 c3 c4 c5 c6 c7 hb4 HB3 HM3 HO3 HP3 HV
  obtain ⟨c0, c1, c2, c3, c4, c5, c6, c7⟩ := HM4.out.c8m
  cases q with
  | false =>
    have HPE : Hid (p = ([], (0, 0), 1)) := by show _ = _; rw [HE.out]; rfl
    clear HE
    have o0 := (HO4.out).c1
    obtain ⟨p0, p1⟩ := (HP4.out).c2
    have fo := (HO4.out).frozen 0
    have f0 := (HP4.out).frozen 0
    have f1 := (HP4.out).frozen 1
    go_wp2_with fail
    obtain ⟨hz1, hz2, hbz⟩ := put_op HO4.out HP4.out (show (w.heap.size + 1) ≠ (w.heap.size + 1 + 1) by omega) HB4.out (show w.heap.size ≤ (w.heap.size + 1) by omega) (show w.heap.size ≤ (w.heap.size + 1 + 1) by omega) (.slice none 0 0) (.int .i64 0) (.int .i64 0)
    obtain ⟨wz, hwz⟩ : ∃ wz, (((w4.setCell ⟨w.heap.size + 1, 0, none⟩ (.slice none 0 0)).setCell ⟨w.heap.size + 1 + 1, 0, none⟩ (.int .i64 0)).setCell ⟨w.heap.size + 1 + 1, 1, none⟩ (.int .i64 0)) = wz := ⟨_, rfl⟩
    rw [hwz] at hz1 hz2 hbz ⊢
    clear hwz
    have g0 := hz1.c1
    obtain ⟨g1, g2⟩ := hz2.c2
    refine bodyPost_ret (v := .tuple #[.agg #[.slice none 0 0], .agg #[.int .i64 0, .int .i64 0], .int .i64 1]) (by simp [results, Tryz.results16, go_sem, g0, g1, g2]) rfl ?_
    show RetImp _ _ _ _
    rw [HPE.out]
    exact ⟨.slice none 0 0, rfl, Sl.none_, hbz⟩
  | true =>
    have HOK : Hid (MpOk m) := Lib.hid (by first | exact HOKQ.out rfl | exact HOKQ.out trivial | exact HOKQ.out)
    have HE1 : Hid (p = if pc = 0 then impT m rows else ([], (pa, pb), pc)) := by show _ = _; rw [HE.out]; rfl
    clear HOKQ HE
    go_wp2_with fail
    (with_reducible refine (HC.out _).mono ?_)
    rintro _ w5 ⟨rv, rfl, hsr, hb5⟩
    dsimp only at hsr
    obtain ⟨Ar, rcap, rfl, hrc1, hrc2, hsr⟩ := hsr.open_
    have HSR := Lib.hid hsr
    have HB5 := Lib.hid (bthen HB4.out hb5)
    have HM5 := Lib.hid (HM4.out.now hb5)
    have HO5 := Lib.hid (HO4.out.now hb5)
    have HP5 := Lib.hid (HP4.out.now hb5)
    have HRB := Lib.hid (And.intro hrc1 hrc2)
    clear c0 c1 c2 c3 c4 c5 c6 c7 hb5 hsr HB4 HM4 HO4 HP4 HC hrc1 hrc2
    have HB6 := Lib.hid (bone w5 (.cells #[.int .i64 pa, .int .i64 pb] 40))
    have HT6 := Lib.hid (Blk.new w5 40 #[.int .i64 pa, .int .i64 pb])
    have HWZ : Hid (((w5.alloc (.cells #[.int .i64 0, .int .i64 0] 40)).setCell ⟨w5.heap.size, 0, none⟩ (.int .i64 pa)).setCell ⟨w5.heap.size, 1, none⟩ (.int .i64 pb) = w5.alloc (.cells #[.int .i64 pa, .int .i64 pb] 40)) := Lib.hid (set2_new w5 _ _ _ _ _)
    obtain ⟨w6, hw6⟩ : ∃ w6, w5.alloc (.cells #[.int .i64 pa, .int .i64 pb] 40) = w6 := ⟨_, rfl⟩
    rw [hw6] at HB6 HT6 HWZ
    have HM6 := Lib.hid (HM5.out.now HB6.out)
    have HO6 := Lib.hid (HO5.out.now HB6.out)
    have HP6 := Lib.hid (HP5.out.now HB6.out)
    have HBW6 := Lib.hid (bthen HB5.out HB6.out)
    have HSR6 := Lib.hid (HSR.out.now HB6.out)
    by_cases hpc : pc = 0
    case neg =>
      have HPE : Hid (p = ([], (pa, pb), pc)) := by show _ = _; rw [HE1.out, if_neg hpc]
      have HPC := Lib.hid hpc
      have e1 : (pc != 0) = true := by simpa using hpc
      clear hpc
      go_upto_region 5 with fail
      first | rw [hw6] | rw [HWZ.out] | skip
      obtain ⟨t0, t1⟩ := HT6.out.c2
      obtain ⟨t2, t3⟩ := (HT6.out.far (p := ⟨w.heap.size + 1, 0, none⟩) (show w5.heap.size ≠ w.heap.size + 1 by have := HP5.out.lt; omega) (.slice none 0 0)).c2
      have o0 := (HO6.out).c1
      obtain ⟨p0, p1⟩ := (HP6.out).c2
      have fo := (HO6.out).frozen 0
      have f0 := (HP6.out).frozen 0
      have f1 := (HP6.out).frozen 1
      go_region
      go_wp2_with fail
      obtain ⟨hz1, hz2, hbz⟩ := put_op HO6.out HP6.out (show (w.heap.size + 1) ≠ (w.heap.size + 1 + 1) by omega) HBW6.out (show w.heap.size ≤ (w.heap.size + 1) by omega) (show w.heap.size ≤ (w.heap.size + 1 + 1) by omega) (.slice none 0 0) (.int .i64 pa) (.int .i64 pb)
      have hz1 := hz1.drew
      have hz2 := hz2.drew
      have hbz := hbz.drew
      obtain ⟨wz, hwz⟩ : ∃ wz, (((w6.setCell ⟨w.heap.size + 1, 0, none⟩ (.slice none 0 0)).setCell ⟨w.heap.size + 1 + 1, 0, none⟩ (.int .i64 pa)).setCell ⟨w.heap.size + 1 + 1, 1, none⟩ (.int .i64 pb)).drew = wz := ⟨_, rfl⟩
      rw [hwz] at hz1 hz2 hbz ⊢
      clear hwz
      have g0 := hz1.c1
      obtain ⟨g1, g2⟩ := hz2.c2
      refine bodyPost_ret (v := .tuple #[.agg #[.slice none 0 0], .agg #[.int .i64 pa, .int .i64 pb], .int .i64 pc]) (by simp [results, Tryz.results16, go_sem, g0, g1, g2]) rfl ?_
      show RetImp _ _ _ _
      rw [HPE.out]
      exact ⟨.slice none 0 0, rfl, Sl.none_, hbz⟩
    case pos =>
      subst hpc
      have HE2 : Hid (p = impT m rows) := by show _ = _; rw [HE1.out, if_pos rfl]
      clear HE1
      match rows, HE2, HCL, HSR6, HRB with
      | [], HE2, HCL, HSR6, HRB =>
        have HPE : Hid (p = ([], (0, 0), 4)) := HE2
        go_upto_region 7 with fail
        first | rw [hw6] | rw [HWZ.out] | skip
        have o0 := (HO6.out).c1
        obtain ⟨p0, p1⟩ := (HP6.out).c2
        have fo := (HO6.out).frozen 0
        have f0 := (HP6.out).frozen 0
        have f1 := (HP6.out).frozen 1
        go_wp2_with fail
        obtain ⟨hz1, hz2, hbz⟩ := put_op HO6.out HP6.out (show (w.heap.size + 1) ≠ (w.heap.size + 1 + 1) by omega) HBW6.out (show w.heap.size ≤ (w.heap.size + 1) by omega) (show w.heap.size ≤ (w.heap.size + 1 + 1) by omega) (.slice none 0 0) (.int .i64 0) (.int .i64 0)
        obtain ⟨wz, hwz⟩ : ∃ wz, (((w6.setCell ⟨w.heap.size + 1, 0, none⟩ (.slice none 0 0)).setCell ⟨w.heap.size + 1 + 1, 0, none⟩ (.int .i64 0)).setCell ⟨w.heap.size + 1 + 1, 1, none⟩ (.int .i64 0)) = wz := ⟨_, rfl⟩
        rw [hwz] at hz1 hz2 hbz ⊢
        clear hwz
        have g0 := hz1.c1
        obtain ⟨g1, g2⟩ := hz2.c2
        refine bodyPost_ret (v := .tuple #[.agg #[.slice none 0 0], .agg #[.int .i64 0, .int .i64 0], .int .i64 4]) (by simp [results, Tryz.results16, go_sem, g0, g1, g2]) rfl ?_
        show RetImp _ _ _ _
        rw [HPE.out]
        exact ⟨.slice none 0 0, rfl, Sl.none_, hbz⟩
      | hd :: rs, HE2, HCL, HSR6, HRB =>
        obtain ⟨rb, ro, hrow, hv, hA, hrD, hrx, hhv, hrcell⟩ := SlSS.at_ HSR6.out (k := 0) (by simp)
        subst hA
        have hrx : some hd = some hrow := hrx
        injection hrx with hrx
        subst hrx
        rw [List.length_cons] at HSR6 HRB ⊢
        have e0 : (((rs.length : Int) + 1) == 0) = false := beq_false_of_ne (by omega)
        go_upto_region 8 with fail
        first | rw [hw6] | rw [HWZ.out] | skip
        clear e0
        have HHV6 := Lib.hid hhv
        obtain ⟨Ah, hcp, hvv, _, _, _⟩ := hhv.open_
        subst hvv
        rw [Nat.add_zero] at hrcell
        have HRC6 : Hid (rb < w6.heap.size ∧ w6.cell? ⟨rb, ro, none⟩ = some (.slice Ah hd.length hcp)) := ⟨hrD, hrcell⟩
        obtain ⟨he, hhe⟩ : ∃ he, headE hd m = he := ⟨_, rfl⟩
        have HHF : Hid (∀ W, Below w6.heap.size w6 W → Calls Tryz.prog 53 #[.slice Ah hd.length hcp, .agg #[.int .i64 m.cas, .int .i64 m.act, .int .i64 m.res, .int .i64 m.life, .int .i64 m.time, .slice Ad m.data.length cd, .slice Ak m.kinds.length ck, .int .u8 z]] W (RetPC he W)) := Lib.hid fun W hW => by
          have := HHD.out hd _ W (HHV6.out.now hW) (HMP.out.now (HBW6.out.trans (hW.mono HBW6.out.size))) HOK.out
          rwa [hhe] at this
        have HHE := Lib.hid hhe
        obtain ⟨⟨ha, hb⟩, hc⟩ := he
        clear hhv hrD hrcell hw6 HM5 HO5 HP5 HB5 HSR HHD HB6 HT6 HWZ hhe
        go_cut [10, 11] from 41 to 48 (fun pv cv W => ∃ T8 : Nat, pv = .pointer (some ⟨T8, 0, none⟩) ∧ cv = .int .i64 hc ∧ Blk W T8 40 #[.int .i64 ha, .int .i64 hb] ∧ w6.heap.size ≤ T8 ∧ Below w6.heap.size w6 W)
        case first =>
          clear HMP HAM HEVT HCL HE2 HS3 HOK HO6 HP6 HSR6 HRB HHE HHV6
          rename_i J1 K1 hJ hK
          have x0 := HRC6.out.2
          have i0 : (0 : Int) < ((rs.length + 1 : Nat) : Int) := by omega
          refine wp_region_mk (by kernel_rfl) (by kernel_rfl) (by kernel_rfl) hdF_mk (hdF m rb ro (rs.length + 1) rcap hd.length hcp w.heap.size m.data.length cd m.kinds.length ck Ah Ad Ak z ha hb hc) ?hstep ?hmk ?hend ?hall
          case hall => exact hall_of (by kernel_rfl)
          case hmk =>
            intro i o ho hm
            match i, ho with
            | 0, ho => exact absurd hm (by decide)
            | 1, ho => exact absurd hm (by decide)
            | 2, ho => exact absurd hm (by decide)
            | 3, ho => exact absurd hm (by decide)
            | 4, ho => exact absurd hm (by decide)
            | 5, ho => exact absurd hm (by decide)
            | 6, ho => exact absurd hm (by decide)
            | 7, ho => exact absurd hm (by decide)
            | 8, ho => injection ho with ho; subst ho; simp
            | 9, ho => exact absurd hm (by decide)
            | 10, ho => exact absurd hm (by decide)
            | n + 11, ho => simp at ho
          case hstep =>
            intro i o ho listed ac W hsh hi hk hM
            have hni := ready_not hi
            have hup9 : Up listed 9 → Up listed 8 := fun h => hsh.up h (by kernel_rfl)
            have hbW : Below w6.heap.size w6 W := (Below.refl _ _).drew.trans hM.below
            match i, ho with
            | 0, ho =>
              injection ho with ho
              subst ho
              have e0 : ac.eval (.tmp 7) = .slice (some ⟨rb, ro, none⟩) (rs.length + 1) rcap := hk.same (s := 7) (by kernel_rfl)
              exact wpM_moveV _ _ rfl e0 ⟨_, rfl, Below.refl _ _, fun h => absurd h (by decide), fun τ' t1 t2 => ⟨t1 (by simp), fun j hj hji hu => hdF_keep hup9 hni t2 (Below.refl _ _) hM.facts j hj hji hu⟩⟩
            | 1, ho =>
              injection ho with ho
              subst ho
              have e0 : ac.eval (.tmp 42) = .slice (some ⟨rb, ro, none⟩) (rs.length + 1) rcap := hM.facts 0 (by decide) (ready_up hi (by kernel_rfl))
              exact wpM_run (.pointer (some ⟨rb, ro, none⟩)) W (by simp only [execOp, e0]; simp [go_sem, i0]) ⟨_, rfl, Below.refl _ _, fun h => absurd h (by decide), fun τ' t1 t2 => ⟨t1 (by simp), fun j hj hji hu => hdF_keep hup9 hni t2 (Below.refl _ _) hM.facts j hj hji hu⟩⟩
            | 2, ho =>
              injection ho with ho
              subst ho
              have e0 : ac.eval (.tmp 43) = .pointer (some ⟨rb, ro, none⟩) := hM.facts 1 (by decide) (ready_up hi (by kernel_rfl))
              exact wpM_load _ _ _ (.slice Ah hd.length hcp) rfl e0 (by simp [go_sem, (hbW.cell (p := ⟨rb, ro, none⟩) HRC6.out.1).trans x0]) ⟨_, rfl, Below.refl _ _, fun h => absurd h (by decide), fun τ' t1 t2 => ⟨t1 (by simp), fun j hj hji hu => hdF_keep hup9 hni t2 (Below.refl _ _) hM.facts j hj hji hu⟩⟩
            | 3, ho =>
              injection ho with ho
              subst ho
              obtain ⟨q0, q1, q2, q3, q4, q5, q6, q7⟩ := (HM6.out.now hbW).c8m
              have e0 : ac.eval (.tmp 3) = .pointer (some ⟨w.heap.size, 0, none⟩) := hk.same (s := 3) (by kernel_rfl)
              exact wpM_load _ _ _ (.agg #[.int .i64 m.cas, .int .i64 m.act, .int .i64 m.res, .int .i64 m.life, .int .i64 m.time, .slice Ad m.data.length cd, .slice Ak m.kinds.length ck, .int .u8 z]) rfl e0 (by simp [go_sem, q0, q1, q2, q3, q4, q5, q6, q7]) ⟨_, rfl, Below.refl _ _, fun h => absurd h (by decide), fun τ' t1 t2 => ⟨t1 (by simp), fun j hj hji hu => hdF_keep hup9 hni t2 (Below.refl _ _) hM.facts j hj hji hu⟩⟩
            | 4, ho =>
              injection ho with ho
              subst ho
              have e0 : ac.eval (.tmp 44) = .slice Ah hd.length hcp := hM.facts 2 (by decide) (ready_up hi (by kernel_rfl))
              have e1 : ac.eval (.tmp 45) = .agg #[.int .i64 m.cas, .int .i64 m.act, .int .i64 m.res, .int .i64 m.life, .int .i64 m.time, .slice Ad m.data.length cd, .slice Ak m.kinds.length ck, .int .u8 z] := hM.facts 3 (by decide) (ready_up hi (by kernel_rfl))
              refine wpM_callF (f := 53) enters_header _ _ #[.slice Ah hd.length hcp, .agg #[.int .i64 m.cas, .int .i64 m.act, .int .i64 m.res, .int .i64 m.life, .int .i64 m.time, .slice Ad m.data.length cd, .slice Ak m.kinds.length ck, .int .u8 z]] _ rfl rfl (by simp only [List.map_toArray, List.map_cons, List.map_nil, e0, e1]) ((HHF.out W hbW).mono ?_)
              rintro e W' ⟨rfl, hb⟩
              exact ⟨_, rfl, _, rfl, hb.mono hbW.size, fun h => absurd h (by decide), fun τ' t1 t2 => ⟨t1 (by simp), fun j hj hji hu => hdF_keep hup9 hni t2 hb hM.facts j hj hji hu⟩⟩
            | 5, ho =>
              injection ho with ho
              subst ho
              have e0 : ac.eval (.tmp 46) = .tuple #[.agg #[.int .i64 ha, .int .i64 hb], .int .i64 hc] := hM.facts 4 (by decide) (ready_up hi (by kernel_rfl))
              exact wpM_moveV _ _ rfl e0 ⟨_, rfl, Below.refl _ _, fun h => absurd h (by decide), fun τ' t1 t2 => ⟨t1 (by simp), fun j hj hji hu => hdF_keep hup9 hni t2 (Below.refl _ _) hM.facts j hj hji hu⟩⟩
            | 6, ho =>
              injection ho with ho
              subst ho
              have e0 : ac.eval (.tmp 41) = .tuple #[.agg #[.int .i64 ha, .int .i64 hb], .int .i64 hc] := hM.facts 5 (by decide) (ready_up hi (by kernel_rfl))
              exact wpM_run (.agg #[.int .i64 ha, .int .i64 hb]) W (by simp only [execOp, e0]; simp [go_sem]) ⟨_, rfl, Below.refl _ _, fun h => absurd h (by decide), fun τ' t1 t2 => ⟨t1 (by simp), fun j hj hji hu => hdF_keep hup9 hni t2 (Below.refl _ _) hM.facts j hj hji hu⟩⟩
            | 7, ho =>
              injection ho with ho
              subst ho
              have e0 : ac.eval (.tmp 41) = .tuple #[.agg #[.int .i64 ha, .int .i64 hb], .int .i64 hc] := hM.facts 5 (by decide) (ready_up hi (by kernel_rfl))
              exact wpM_run (.int .i64 hc) W (by simp only [execOp, e0]; simp [go_sem]) ⟨_, rfl, Below.refl _ _, fun h => absurd h (by decide), fun τ' t1 t2 => ⟨t1 (by simp), fun j hj hji hu => hdF_keep hup9 hni t2 (Below.refl _ _) hM.facts j hj hji hu⟩⟩
            | 8, ho =>
              injection ho with ho
              subst ho
              exact wpM_alloc _ _ _ rfl (alP W) ⟨_, rfl, (bone _ _).mono hbW.size, fun _ => ⟨Nat.le_refl _, by simp [blkOf]⟩, fun τ' t1 t2 => ⟨⟨_, t1 (by simp), _, _, Blk.new _ _ _⟩, fun j hj hji hu => hdF_keep hup9 hni t2 (bone _ _) hM.facts j hj hji hu⟩⟩
            | 9, ho =>
              injection ho with ho
              subst ho
              have e0 : ac.eval (.tmp 47) = .agg #[.int .i64 ha, .int .i64 hb] := hM.facts 6 (by decide) (ready_up hi (by kernel_rfl))
              have u1 := ready_up hi (show Region.waitsFor .any _ 9 8 = true by kernel_rfl)
              obtain ⟨p, ep, x0, x1, hp⟩ := hM.facts 8 (by decide) u1
              have k1 : ac.eval (.tmp 10) = .pointer (some ⟨p, 0, none⟩) := ep
              have hlo := hM.lo 8 (by decide) rfl u1
              rw [ep] at hlo
              have hlo1 : w6.heap.size ≤ p := hlo.1
              obtain ⟨q0, q1⟩ := hp.c2
              have f0 := hp.frozen 0
              have f1 := hp.frozen 1
              have hset : Blk ((W.setCell ⟨p, 0, none⟩ (.int .i64 ha)).setCell ⟨p, 1, none⟩ (.int .i64 hb)) p 40 #[.int .i64 ha, .int .i64 hb] := ((hp.set_ 0 (.int .i64 ha)).set_ 1 (.int .i64 hb))
              have hbs : Below w6.heap.size W ((W.setCell ⟨p, 0, none⟩ (.int .i64 ha)).setCell ⟨p, 1, none⟩ (.int .i64 hb)) := (((Below.refl _ _).setCell (p := ⟨p, 0, none⟩) hlo1 (.int .i64 ha)).setCell (p := ⟨p, 1, none⟩) hlo1 (.int .i64 hb))
              refine wpM_store _ _ _ _ _ ((W.setCell ⟨p, 0, none⟩ (.int .i64 ha)).setCell ⟨p, 1, none⟩ (.int .i64 hb)) () rfl k1 e0 (by simp [go_sem, q0, q1, f0, f1]) ⟨_, rfl, hbs, fun h => absurd h (by decide), fun τ' t1 t2 => ⟨⟨p, (t2 8 (by decide) (by decide)).trans ep, hset⟩, fun j hj hji hu => ?_⟩⟩
              match j, hj with
              | 0, _ => exact (t2 0 (by decide) hji).trans (hM.facts 0 (by decide) hu)
              | 1, _ => exact (t2 1 (by decide) hji).trans (hM.facts 1 (by decide) hu)
              | 2, _ => exact (t2 2 (by decide) hji).trans (hM.facts 2 (by decide) hu)
              | 3, _ => exact (t2 3 (by decide) hji).trans (hM.facts 3 (by decide) hu)
              | 4, _ => exact (t2 4 (by decide) hji).trans (hM.facts 4 (by decide) hu)
              | 5, _ => exact (t2 5 (by decide) hji).trans (hM.facts 5 (by decide) hu)
              | 6, _ => exact (t2 6 (by decide) hji).trans (hM.facts 6 (by decide) hu)
              | 7, _ => exact (t2 7 (by decide) hji).trans (hM.facts 7 (by decide) hu)
              | 8, _ => exact ⟨p, (t2 8 (by decide) (by decide)).trans ep, _, _, hset⟩
              | 9, _ => exact absurd rfl hji
              | 10, _ => exact (t2 10 (by decide) hji).trans (hM.facts 10 (by decide) hu)
              | n + 11, hj => exact absurd hj (by simp)
            | 10, ho =>
              injection ho with ho
              subst ho
              have e0 : ac.eval (.tmp 48) = .int .i64 hc := hM.facts 7 (by decide) (ready_up hi (by kernel_rfl))
              exact wpM_assign _ _ rfl e0 ⟨_, rfl, Below.refl _ _, fun h => absurd h (by decide), fun τ' t1 t2 => ⟨t1 (by simp), fun j hj hji hu => hdF_keep hup9 hni t2 (Below.refl _ _) hM.facts j hj hji hu⟩⟩
            | n + 11, ho => simp at ho
          case hend =>
            intro listed ac W hupp hk hM
            have hbW : Below w6.heap.size w6 W := (Below.refl _ _).drew.trans hM.below
            obtain ⟨p, e8, hp⟩ := hM.facts 9 (by decide) (hupp 9 (by decide))
            have hlo := hM.lo 8 (by decide) rfl (hupp 8 (by decide))
            rw [e8] at hlo
            have hlo : w6.heap.size ≤ p := hlo.1
            have x42 := hM.facts 0 (by decide) (hupp 0 (by decide))
            have x43 := hM.facts 1 (by decide) (hupp 1 (by decide))
            have x44 := hM.facts 2 (by decide) (hupp 2 (by decide))
            have x45 := hM.facts 3 (by decide) (hupp 3 (by decide))
            have x46 := hM.facts 4 (by decide) (hupp 4 (by decide))
            have x41 := hM.facts 5 (by decide) (hupp 5 (by decide))
            have x47 := hM.facts 6 (by decide) (hupp 6 (by decide))
            have x48 := hM.facts 7 (by decide) (hupp 7 (by decide))
            have x11 := hM.facts 10 (by decide) (hupp 10 (by decide))
            have y10 : Act.slot ac 10 = .pointer (some ⟨p, 0, none⟩) := e8
            have y11 : Act.slot ac 11 = .int .i64 hc := x11
            refine hK _ _ ?_
            rw [hk.form (by kernel_rfl)]
            simp only [putsAll, Option.getD_some, Act.put, List.setIfInBounds_toArray, List.set_cons_zero, List.set_cons_succ, y10, y11]
            go_meet
            exact ⟨p, rfl, rfl, hp, hlo, hbW⟩
        case rest =>
          obtain ⟨T8, rfl, rfl, hT8, hT8g, hb7⟩ := hcut
          have HT8G : Hid (w.heap.size + 1 + 1 < T8) := by show _ < _; have := HP6.out.lt; omega
          have HB7 := Lib.hid (HBW6.out.trans (hb7.mono HBW6.out.size))
          have HM7 := Lib.hid (HM6.out.now hb7)
          have HO7 := Lib.hid (HO6.out.now hb7)
          have HP7 := Lib.hid (HP6.out.now hb7)
          have HSR7 := Lib.hid (HSR6.out.now hb7)
          have HHV7 := Lib.hid (HHV6.out.now hb7)
          have HT7 := Lib.hid hT8
          have HRC7 := Lib.hid (And.intro (Nat.lt_of_lt_of_le HRC6.out.1 hb7.size) ((hb7.cell (p := ⟨rb, ro, none⟩) HRC6.out.1).trans HRC6.out.2))
          obtain ⟨w7, hw7⟩ : ∃ w7, wc = w7 := ⟨_, rfl⟩
          rw [hw7] at HB7 HM7 HO7 HP7 HSR7 HHV7 HRC7 HT7 ⊢
          clear hw7 hb7 hT8 HM6 HO6 HP6 HSR6 HHV6 HRC6 HBW6 HHF
          by_cases hhc : hc = 0
          case neg =>
            have HPE : Hid (p = ([], (ha, hb), hc)) := by show _ = _; rw [HE2.out]; show impT m (hd :: rs) = _; unfold impT; dsimp only; rw [HHE.out, if_neg hhc]
            have HPC := Lib.hid hhc
            have e1 : (hc != 0) = true := by simpa using hhc
            clear hhc
            go_upto_region 10 with fail
            obtain ⟨t0, t1⟩ := HT7.out.c2
            obtain ⟨t2, t3⟩ := (HT7.out.far (p := ⟨w.heap.size + 1, 0, none⟩) (show T8 ≠ w.heap.size + 1 by have := HT8G.out; omega) (.slice none 0 0)).c2
            have o0 := (HO7.out).c1
            obtain ⟨p0, p1⟩ := (HP7.out).c2
            have fo := (HO7.out).frozen 0
            have f0 := (HP7.out).frozen 0
            have f1 := (HP7.out).frozen 1
            go_region
            go_wp2_with fail
            obtain ⟨hz1, hz2, hbz⟩ := put_op HO7.out HP7.out (show (w.heap.size + 1) ≠ (w.heap.size + 1 + 1) by omega) HB7.out (show w.heap.size ≤ (w.heap.size + 1) by omega) (show w.heap.size ≤ (w.heap.size + 1 + 1) by omega) (.slice none 0 0) (.int .i64 ha) (.int .i64 hb)
            have hz1 := hz1.drew
            have hz2 := hz2.drew
            have hbz := hbz.drew
            obtain ⟨wz, hwz⟩ : ∃ wz, (((w7.setCell ⟨w.heap.size + 1, 0, none⟩ (.slice none 0 0)).setCell ⟨w.heap.size + 1 + 1, 0, none⟩ (.int .i64 ha)).setCell ⟨w.heap.size + 1 + 1, 1, none⟩ (.int .i64 hb)).drew = wz := ⟨_, rfl⟩
            rw [hwz] at hz1 hz2 hbz ⊢
            clear hwz
            have g0 := hz1.c1
            obtain ⟨g1, g2⟩ := hz2.c2
            refine bodyPost_ret (v := .tuple #[.agg #[.slice none 0 0], .agg #[.int .i64 ha, .int .i64 hb], .int .i64 hc]) (by simp [results, Tryz.results16, go_sem, g0, g1, g2]) rfl ?_
            show RetImp _ _ _ _
            rw [HPE.out]
            exact ⟨.slice none 0 0, rfl, Sl.none_, hbz⟩
          case pos =>
            subst hhc
            have HEI : Hid (p = (sortS tlt (impRows hd m 0 [] rs).1, (impRows hd m 0 [] rs).2)) := by show _ = _; rw [HE2.out]; show impT m (hd :: rs) = _; unfold impT; dsimp only; rw [HHE.out, if_pos rfl]
            have HHO : Hid ((∀ k ∈ colsX m, k < (hd.length : Int)) ∧ (m.data.map (cellAt hd)).Nodup) := Lib.hid (by have := head_ok (r := hd) (m := m) (by rw [HHE.out]); exact ⟨this.1, this.2.1⟩)
            clear HE2 HHE HT7
            go_upto_region 12 with fail
            have HG8 := Lib.hid (Blk.new w7 38 #[.slice none 0 0])
            have HB8a := Lib.hid (bone w7 (.cells #[.slice none 0 0] 38))
            obtain ⟨w8, hw8⟩ : ∃ w8, w7.alloc (.cells #[.slice none 0 0] 38) = w8 := ⟨_, rfl⟩
            have hs8 : w8.heap.size = w7.heap.size + 1 := by rw [← hw8]; simp
            rw [hw8] at HG8 HB8a ⊢
            have HB8 := Lib.hid (bthen HB7.out HB8a.out)
            have HM8 := Lib.hid (HM7.out.now HB8a.out)
            have HO8 := Lib.hid (HO7.out.now HB8a.out)
            have HP8 := Lib.hid (HP7.out.now HB8a.out)
            have HSR8 : Hid (Sl 1 RStrs (Lt w7.heap.size) w8 (.slice (some ⟨rb, ro, none⟩) (rs.length + 1) rcap) (hd :: rs)) := Sl.keep HSR7.out RStrs.kept (fun _ => id) (Same.of_below HB8a.out)
            have HHV8 : Hid (SlP (Lt w7.heap.size) w8 (.slice Ah hd.length hcp) hd) := SlP.keep HHV7.out (fun _ => id) (Same.of_below HB8a.out)
            have HRC8 := Lib.hid (And.intro HRC7.out.1 ((HB8a.out.cell (p := ⟨rb, ro, none⟩) HRC7.out.1).trans HRC7.out.2))
            obtain ⟨G, hGe⟩ : ∃ G, w7.heap.size = G := ⟨_, rfl⟩
            rw [hGe] at HG8 hs8 HSR8 HHV8 HRC8 ⊢
            have HGW : Hid (w.heap.size + 1 + 1 < G) := by show _ < _; have := HP7.out.lt; omega
            have HS8 := Lib.hid hs8
            clear hw8 hGe hs8 HB8a HM7 HO7 HP7 HSR7 HHV7 HRC7 HB7
            go_cut [55, 56, 57] from 54 to 57 (fun sv nv iv W => (∃ A c, sv = .slice A rs.length c ∧ SlSS (Lt G) w8 (.slice A rs.length c) rs) ∧ nv = .int .i64 (rs.length : Int) ∧ iv = .int .i64 0 ∧ w8 = W)
            case first =>
              have hrb1 := HRB.out.1
              have hrb2 := HRB.out.2
              have i0 : (1 : Int) ≤ (rcap : Int) := by omega
              have i1 : (1 : Int) ≤ ((rs.length + 1 : Nat) : Int) := by omega
              have hl1 : rs.length + 1 - 1 = rs.length := by omega
              by_cases hr1 : 1 < rcap
              · have hd1 := Sl.drop1 HSR8.out rfl HRB.out.1 HRB.out.2
                have i2 : (1 : Int) < (rcap : Int) := by omega
                have i4 : (0 : Int) < (rcap : Int) - 1 := by omega
                rw [hl1] at hd1
                have HD1 := Lib.hid hd1
                clear hd1
                go_wp2_with fail
                go_meet
                exact ⟨⟨_, _, rfl, HD1.out⟩, rfl, rfl, rfl⟩
              · have hr0 : rcap = 1 := by omega
                have hrs0 : rs = [] := List.length_eq_zero_iff.1 (by omega)
                subst hr0 hrs0
                go_wp2_with fail
                go_meet
                exact ⟨⟨_, _, rfl, ⟨_, _, rfl, by simp, by unfold maxLen; simp, fun i y hy => by simp at hy⟩⟩, rfl, rfl, rfl⟩
            case rest =>
              obtain ⟨⟨A, c, rfl, hs1⟩, rfl, rfl, rfl⟩ := hcut
              have HRS := Lib.hid hs1
              have HRL : Hid (rs.length ≤ 2000) := by show _ ≤ _; have := HCL.out.2; simp at this; omega
              clear hs1 HSR8
              go_wp2_with fail
              go_loopw [57] (fun iv wr => ∃ (k : Nat) (acc : List Ev) (lv : Value), iv = .int .i64 (k : Int) ∧ k ≤ rs.length ∧ Hid (acc.length = k) ∧ Hid (acc = [] → lv = .slice none 0 0) ∧ Hid (Blk wr G 38 #[lv]) ∧ Hid (OwnR 6 REv (fun b => b < w8.heap.size) wr w8.heap.size 69 lv acc) ∧ Hid (Chg (One G) w8 wr) ∧ Hid (impRows hd m 0 [] rs = impRows hd m k acc (rs.drop k))) (fun iv _ => rs.length - (intOf iv).toNat)
              case atStart => exact ⟨0, [], .slice none 0 0, rfl, Nat.zero_le _, Lib.hid rfl, Lib.hid (fun _ => rfl), HG8, Lib.hid OwnR.nil, Lib.hid Chg.refl, Lib.hid rfl⟩
              case round =>
                obtain ⟨k, acc, lv, rfl, hk, HAL, HNL, HGB, HOW, HCH, HIR⟩ := hrel
                obtain ⟨Al, cl, hlv⟩ := HOW.out.open_
                rw [HAL.out] at hlv
                subst hlv
                have hrl2 : rs.length ≤ 2000 := HRL.out
                by_cases hlt : k < rs.length
                · obtain ⟨b1, o1, r, u, rfl, hD1, hx1, hu1, hc1⟩ := SlSS.at_ HRS.out hlt
                  obtain ⟨Ar1, cr1, rfl, _, _, hu1⟩ := hu1.open_
                  have HIS : Hid (impRows hd m k acc (rs.drop k) = if r.length ≠ hd.length then ([], ((k : Int) + 2, 1), 29) else if (evE r hd m).2.2 = 0 then impRows hd m (k + 1) (acc ++ [(evE r hd m).1]) (rs.drop (k + 1)) else ([], ((k : Int) + 2, (evE r hd m).2.1 + 1), (evE r hd m).2.2)) := by
                    show _ = _
                    rw [drop_cons hx1]
                    rfl
                  have HRM : Hid (r ∈ hd :: rs) := Lib.hid (List.mem_cons_of_mem _ (List.mem_of_getElem? hx1))
                  obtain ⟨w9, hw9⟩ : ∃ w9, wr = w9 := ⟨_, rfl⟩
                  rw [hw9] at HGB HOW HCH ⊢
                  have HBG : Hid (Below G w8 w9) := HCH.out.below (B := G) (by have := HS8.out; omega) fun i hi e => by have e : i = G := e; omega
                  have HM9 := Lib.hid (HM8.out.chg HCH.out (show ¬ w.heap.size = G by have := HGW.out; omega))
                  have hG9 : G < w9.heap.size := HGB.out.lt
                  have HU9 : Hid (SlP (Lt w9.heap.size) w9 (.slice Ar1 r.length cr1) r) := SlP.keep hu1 (fun b hb => Nat.lt_trans hb hG9) (Same.of_below HBG.out)
                  have HH9 : Hid (SlP (Lt w9.heap.size) w9 (.slice Ah hd.length hcp) hd) := SlP.keep HHV8.out (fun b hb => Nat.lt_trans hb hG9) (Same.of_below HBG.out)
                  have c0 := (HBG.out.cell (p := ⟨b1, o1 + k, none⟩) hD1).trans hc1
                  have d0 := (HBG.out.cell (p := ⟨rb, ro, none⟩) HRC8.out.1).trans HRC8.out.2
                  have HBW9 : Hid (Below w.heap.size w w9) := HB8.out.trans (HBG.out.mono (by have := HGW.out; omega))
                  have HO9 := Lib.hid (HO8.out.chg HCH.out (show ¬ (w.heap.size + 1) = G by have := HGW.out; omega))
                  have HP9 := Lib.hid (HP8.out.chg HCH.out (show ¬ (w.heap.size + 1 + 1) = G by have := HGW.out; omega))
                  have i0 : (0 : Int) < ((rs.length + 1 : Nat) : Int) := by omega
                  by_cases hle : r.length = hd.length
                  case neg =>
                    have HPE : Hid (p = ([], ((k : Int) + 2, 1), 29)) := by show _ = _; rw [HEI.out, HIR.out, HIS.out, if_pos hle]; rfl
                    have e3 : ((r.length : Int) != (hd.length : Int)) = true := by rw [bne_iff_ne]; omega
                    clear hle hx1 hu1 hc1 hD1 hw9
                    have o0 := (HO9.out).c1
                    obtain ⟨p0, p1⟩ := (HP9.out).c2
                    have fo := (HO9.out).frozen 0
                    have f0 := (HP9.out).frozen 0
                    have f1 := (HP9.out).frozen 1
                    go_wp2_with fail
                    obtain ⟨hz1, hz2, hbz⟩ := put_op HO9.out HP9.out (show (w.heap.size + 1) ≠ (w.heap.size + 1 + 1) by omega) HBW9.out (show w.heap.size ≤ (w.heap.size + 1) by omega) (show w.heap.size ≤ (w.heap.size + 1 + 1) by omega) (.slice none 0 0) (.int .i64 ((k : Int) + 2)) (.int .i64 1)
                    obtain ⟨wz, hwz⟩ : ∃ wz, (((w9.setCell ⟨w.heap.size + 1, 0, none⟩ (.slice none 0 0)).setCell ⟨w.heap.size + 1 + 1, 0, none⟩ (.int .i64 ((k : Int) + 2))).setCell ⟨w.heap.size + 1 + 1, 1, none⟩ (.int .i64 1)) = wz := ⟨_, rfl⟩
                    rw [hwz] at hz1 hz2 hbz ⊢
                    clear hwz
                    have g0 := hz1.c1
                    obtain ⟨g1, g2⟩ := hz2.c2
                    refine bodyPost_ret (v := .tuple #[.agg #[.slice none 0 0], .agg #[.int .i64 ((k : Int) + 2), .int .i64 1], .int .i64 29]) (by simp [results, Tryz.results16, go_sem, g0, g1, g2]) rfl ?_
                    show RetImp _ _ _ _
                    rw [HPE.out]
                    exact ⟨.slice none 0 0, rfl, Sl.none_, hbz⟩
                  case pos =>
                    have HIS : Hid (impRows hd m k acc (rs.drop k) = if (evE r hd m).2.2 = 0 then impRows hd m (k + 1) (acc ++ [(evE r hd m).1]) (rs.drop (k + 1)) else ([], ((k : Int) + 2, (evE r hd m).2.1 + 1), (evE r hd m).2.2)) := by
                      show _ = _
                      rw [HIS.out, if_neg (fun e => e hle)]
                    have e3 : ((r.length : Int) != (hd.length : Int)) = false := by rw [hle]; simp
                    have HLE := Lib.hid hle
                    clear hle hx1 hu1 hc1 hD1 hw9
                    go_upto_region 17 with fail
                    clear e3
                    obtain ⟨pp, hpp⟩ : ∃ pp, evE r hd m = pp := ⟨_, rfl⟩
                    have HEV : Hid (∀ W, Below w9.heap.size w9 W → Calls Tryz.prog 54 #[.slice Ar1 r.length cr1, .slice Ah hd.length hcp, .agg #[.int .i64 m.cas, .int .i64 m.act, .int .i64 m.res, .int .i64 m.life, .int .i64 m.time, .slice Ad m.data.length cd, .slice Ak m.kinds.length ck, .int .u8 z]] W (RetEv pp W)) := Lib.hid fun W hW => by
                      have := HEVT.out r hd _ _ W (HU9.out.now hW) (HH9.out.now hW) (HMP.out.now (HBW9.out.trans (hW.mono HBW9.out.size))) HOK.out (fun k hk => by rw [HLE.out]; exact HHO.out.1 k hk) HLE.out.symm (fun c hc => by have := HCL.out.1 r HRM.out c hc; omega) (fun c hc => by have := HCL.out.1 hd (by simp) c hc; unfold maxLen; omega) HHO.out.2 ((HAM.out.now HBW9.out).now hW)
                      rwa [hpp] at this
                    have HCO : Hid (0 ≤ pp.2.1 ∧ pp.2.1 < 40) := by rw [← hpp]; exact evE_col HOK.out
                    rw [hpp] at HIS
                    clear hpp
                    go_cut [15, 16, 17] from 73 to 82 (fun pv kv ev W => ∃ Q : Nat, pv = .pointer (some ⟨Q, 0, none⟩) ∧ kv = .int .i64 pp.2.1 ∧ ev = .int .i64 pp.2.2 ∧ (∃ cs, Blk W Q 69 cs ∧ EvV w9.heap.size pp (.agg cs) W) ∧ Below w9.heap.size w9 W)
                    case first =>
                      clear HMP HOK HAM HEVT HCL HS3 HEI HHO HB8 HM8 HO8 HP8 HHV8 HRB HGW HS8 HG8 HRS HRL HAL HNL HGB HOW HCH HIR HIS HRM HBG HU9 HH9 HBW9 HO9 HP9 HLE HCO c0
                      rename_i J1 K1 hJ hK
                      refine wp_region_mk (by kernel_rfl) (by kernel_rfl) (by kernel_rfl) evnF_mk (evnF m rb ro (rs.length + 1) rcap hd.length hcp r.length cr1 w.heap.size m.data.length cd m.kinds.length ck w9.heap.size Ah Ad Ak Ar1 z pp) ?hstep ?hmk ?hend ?hall
                      case hall => exact hall_of (by kernel_rfl)
                      case hmk =>
                        intro i o ho hm
                        match i, ho with
                        | 0, ho => exact absurd hm (by decide)
                        | 1, ho => exact absurd hm (by decide)
                        | 2, ho => exact absurd hm (by decide)
                        | 3, ho => exact absurd hm (by decide)
                        | 4, ho => exact absurd hm (by decide)
                        | 5, ho => exact absurd hm (by decide)
                        | 6, ho => exact absurd hm (by decide)
                        | 7, ho => exact absurd hm (by decide)
                        | 8, ho => exact absurd hm (by decide)
                        | 9, ho => exact absurd hm (by decide)
                        | 10, ho => injection ho with ho; subst ho; simp
                        | 11, ho => exact absurd hm (by decide)
                        | 12, ho => exact absurd hm (by decide)
                        | 13, ho => exact absurd hm (by decide)
                        | n + 14, ho => simp at ho
                      case hstep =>
                        intro i o ho listed ac W hsh hi hk hM
                        have hni := ready_not hi
                        have hup11 : Up listed 11 → Up listed 10 := fun h => hsh.up h (by kernel_rfl)
                        have hbW : Below w9.heap.size w9 W := (Below.refl _ _).drew.trans hM.below
                        match i, ho with
                        | 0, ho =>
                          injection ho with ho
                          subst ho
                          have e0 : ac.eval (.tmp 14) = .slice Ar1 r.length cr1 := hk.same (s := 14) (by kernel_rfl)
                          exact wpM_moveV _ _ rfl e0 ⟨_, rfl, Below.refl _ _, fun h => absurd h (by decide), fun τ' t1 t2 => ⟨t1 (by simp), fun j hj hji hu => evnF_keep hup11 hni t2 (Below.refl _ _) hM.facts j hj hji hu⟩⟩
                        | 1, ho =>
                          injection ho with ho
                          subst ho
                          have e0 : ac.eval (.tmp 7) = .slice (some ⟨rb, ro, none⟩) (rs.length + 1) rcap := hk.same (s := 7) (by kernel_rfl)
                          exact wpM_moveV _ _ rfl e0 ⟨_, rfl, Below.refl _ _, fun h => absurd h (by decide), fun τ' t1 t2 => ⟨t1 (by simp), fun j hj hji hu => evnF_keep hup11 hni t2 (Below.refl _ _) hM.facts j hj hji hu⟩⟩
                        | 2, ho =>
                          injection ho with ho
                          subst ho
                          have e0 : ac.eval (.tmp 75) = .slice (some ⟨rb, ro, none⟩) (rs.length + 1) rcap := hM.facts 1 (by decide) (ready_up hi (by kernel_rfl))
                          exact wpM_run (.pointer (some ⟨rb, ro, none⟩)) W (by simp only [execOp, e0]; simp [go_sem, i0]) ⟨_, rfl, Below.refl _ _, fun h => absurd h (by decide), fun τ' t1 t2 => ⟨t1 (by simp), fun j hj hji hu => evnF_keep hup11 hni t2 (Below.refl _ _) hM.facts j hj hji hu⟩⟩
                        | 3, ho =>
                          injection ho with ho
                          subst ho
                          have e0 : ac.eval (.tmp 76) = .pointer (some ⟨rb, ro, none⟩) := hM.facts 2 (by decide) (ready_up hi (by kernel_rfl))
                          exact wpM_load _ _ _ (.slice Ah hd.length hcp) rfl e0 (by simp [go_sem, (hbW.cell (p := ⟨rb, ro, none⟩) (Nat.lt_trans HRC8.out.1 hG9)).trans d0]) ⟨_, rfl, Below.refl _ _, fun h => absurd h (by decide), fun τ' t1 t2 => ⟨t1 (by simp), fun j hj hji hu => evnF_keep hup11 hni t2 (Below.refl _ _) hM.facts j hj hji hu⟩⟩
                        | 4, ho =>
                          injection ho with ho
                          subst ho
                          obtain ⟨q0, q1, q2, q3, q4, q5, q6, q7⟩ := (HM9.out.now hbW).c8m
                          have e0 : ac.eval (.tmp 3) = .pointer (some ⟨w.heap.size, 0, none⟩) := hk.same (s := 3) (by kernel_rfl)
                          exact wpM_load _ _ _ (.agg #[.int .i64 m.cas, .int .i64 m.act, .int .i64 m.res, .int .i64 m.life, .int .i64 m.time, .slice Ad m.data.length cd, .slice Ak m.kinds.length ck, .int .u8 z]) rfl e0 (by simp [go_sem, q0, q1, q2, q3, q4, q5, q6, q7]) ⟨_, rfl, Below.refl _ _, fun h => absurd h (by decide), fun τ' t1 t2 => ⟨t1 (by simp), fun j hj hji hu => evnF_keep hup11 hni t2 (Below.refl _ _) hM.facts j hj hji hu⟩⟩
                        | 5, ho =>
                          injection ho with ho
                          subst ho
                          have e0 : ac.eval (.tmp 74) = .slice Ar1 r.length cr1 := hM.facts 0 (by decide) (ready_up hi (by kernel_rfl))
                          have e1 : ac.eval (.tmp 77) = .slice Ah hd.length hcp := hM.facts 3 (by decide) (ready_up hi (by kernel_rfl))
                          have e2 : ac.eval (.tmp 78) = .agg #[.int .i64 m.cas, .int .i64 m.act, .int .i64 m.res, .int .i64 m.life, .int .i64 m.time, .slice Ad m.data.length cd, .slice Ak m.kinds.length ck, .int .u8 z] := hM.facts 4 (by decide) (ready_up hi (by kernel_rfl))
                          refine wpM_callF (f := 54) enters_event _ _ #[.slice Ar1 r.length cr1, .slice Ah hd.length hcp, .agg #[.int .i64 m.cas, .int .i64 m.act, .int .i64 m.res, .int .i64 m.life, .int .i64 m.time, .slice Ad m.data.length cd, .slice Ak m.kinds.length ck, .int .u8 z]] _ rfl rfl (by simp only [List.map_toArray, List.map_cons, List.map_nil, e0, e1, e2]) ((HEV.out W hbW).mono ?_)
                          rintro e W' ⟨v, rfl, hv, hb⟩
                          have hv := hv.low hbW.size
                          exact ⟨_, rfl, _, rfl, hb.mono hbW.size, fun h => absurd h (by decide), fun τ' t1 t2 => ⟨⟨v, t1 (by simp), hv⟩, fun j hj hji hu => evnF_keep hup11 hni t2 hb hM.facts j hj hji hu⟩⟩
                        | 6, ho =>
                          injection ho with ho
                          subst ho
                          obtain ⟨ev, e0, hv⟩ := hM.facts 5 (by decide) (ready_up hi (by kernel_rfl))
                          have e0 : ac.eval (.tmp 79) = .tuple #[ev, .int .i64 pp.2.1, .int .i64 pp.2.2] := e0
                          exact wpM_moveV _ _ rfl e0 ⟨_, rfl, Below.refl _ _, fun h => absurd h (by decide), fun τ' t1 t2 => ⟨⟨ev, t1 (by simp), hv⟩, fun j hj hji hu => evnF_keep hup11 hni t2 (Below.refl _ _) hM.facts j hj hji hu⟩⟩
                        | 7, ho =>
                          injection ho with ho
                          subst ho
                          obtain ⟨ev, e0, hv⟩ := hM.facts 6 (by decide) (ready_up hi (by kernel_rfl))
                          have e0 : ac.eval (.tmp 73) = .tuple #[ev, .int .i64 pp.2.1, .int .i64 pp.2.2] := e0
                          exact wpM_run ev W (by simp only [execOp, e0]; simp [go_sem]) ⟨_, rfl, Below.refl _ _, fun h => absurd h (by decide), fun τ' t1 t2 => ⟨(by show EvV _ _ _ _; rw [t1 (by simp)]; exact hv), fun j hj hji hu => evnF_keep hup11 hni t2 (Below.refl _ _) hM.facts j hj hji hu⟩⟩
                        | 8, ho =>
                          injection ho with ho
                          subst ho
                          obtain ⟨ev, e0, hv⟩ := hM.facts 6 (by decide) (ready_up hi (by kernel_rfl))
                          have e0 : ac.eval (.tmp 73) = .tuple #[ev, .int .i64 pp.2.1, .int .i64 pp.2.2] := e0
                          exact wpM_run (.int .i64 pp.2.1) W (by simp only [execOp, e0]; simp [go_sem]) ⟨_, rfl, Below.refl _ _, fun h => absurd h (by decide), fun τ' t1 t2 => ⟨t1 (by simp), fun j hj hji hu => evnF_keep hup11 hni t2 (Below.refl _ _) hM.facts j hj hji hu⟩⟩
                        | 9, ho =>
                          injection ho with ho
                          subst ho
                          obtain ⟨ev, e0, hv⟩ := hM.facts 6 (by decide) (ready_up hi (by kernel_rfl))
                          have e0 : ac.eval (.tmp 73) = .tuple #[ev, .int .i64 pp.2.1, .int .i64 pp.2.2] := e0
                          exact wpM_run (.int .i64 pp.2.2) W (by simp only [execOp, e0]; simp [go_sem]) ⟨_, rfl, Below.refl _ _, fun h => absurd h (by decide), fun τ' t1 t2 => ⟨t1 (by simp), fun j hj hji hu => evnF_keep hup11 hni t2 (Below.refl _ _) hM.facts j hj hji hu⟩⟩
                        | 10, ho =>
                          injection ho with ho
                          subst ho
                          exact wpM_alloc _ _ _ rfl (alEv W) ⟨_, rfl, (bone _ _).mono hbW.size, fun _ => ⟨Nat.le_refl _, by simp [blkOf]⟩, fun τ' t1 t2 => ⟨⟨_, t1 (by simp), _, _, _, _, _, _, Blk.new _ _ _⟩, fun j hj hji hu => evnF_keep hup11 hni t2 (bone _ _) hM.facts j hj hji hu⟩⟩
                        | 11, ho =>
                          injection ho with ho
                          subst ho
                          obtain ⟨sa, sb, sc, xd, xt, xA, xn, xc, he80, hE80⟩ := hM.facts 7 (by decide) (ready_up hi (by kernel_rfl))
                          have e0 : ac.eval (.tmp 80) = .agg #[.string sa, .string sb, .string sc, .int .i64 xd, .int .i64 xt, .slice xA xn xc] := he80
                          have hEV : EvV _ _ (.agg #[.string sa, .string sb, .string sc, .int .i64 xd, .int .i64 xt, .slice xA xn xc]) W := ⟨sa, sb, sc, xd, xt, xA, xn, xc, rfl, hE80⟩
                          have u1 := ready_up hi (show Region.waitsFor .any _ 11 10 = true by kernel_rfl)
                          obtain ⟨p, ep, x0, x1, x2, x3, x4, x5, hp⟩ := hM.facts 10 (by decide) u1
                          have k1 : ac.eval (.tmp 15) = .pointer (some ⟨p, 0, none⟩) := ep
                          have hlo := hM.lo 10 (by decide) rfl u1
                          rw [ep] at hlo
                          have hlo1 : w9.heap.size ≤ p := hlo.1
                          obtain ⟨q0, q1, q2, q3, q4, q5⟩ := hp.c6
                          have f0 := hp.frozen 0
                          have f1 := hp.frozen 1
                          have f2 := hp.frozen 2
                          have f3 := hp.frozen 3
                          have f4 := hp.frozen 4
                          have f5 := hp.frozen 5
                          have hset : Blk ((((((W.setCell ⟨p, 0, none⟩ (.string sa)).setCell ⟨p, 1, none⟩ (.string sb)).setCell ⟨p, 2, none⟩ (.string sc)).setCell ⟨p, 3, none⟩ (.int .i64 xd)).setCell ⟨p, 4, none⟩ (.int .i64 xt)).setCell ⟨p, 5, none⟩ (.slice xA xn xc)) p 69 #[.string sa, .string sb, .string sc, .int .i64 xd, .int .i64 xt, .slice xA xn xc] := ((((((hp.set_ 0 (.string sa)).set_ 1 (.string sb)).set_ 2 (.string sc)).set_ 3 (.int .i64 xd)).set_ 4 (.int .i64 xt)).set_ 5 (.slice xA xn xc))
                          have hbs : Below w9.heap.size W ((((((W.setCell ⟨p, 0, none⟩ (.string sa)).setCell ⟨p, 1, none⟩ (.string sb)).setCell ⟨p, 2, none⟩ (.string sc)).setCell ⟨p, 3, none⟩ (.int .i64 xd)).setCell ⟨p, 4, none⟩ (.int .i64 xt)).setCell ⟨p, 5, none⟩ (.slice xA xn xc)) := (((((((Below.refl _ _).setCell (p := ⟨p, 0, none⟩) hlo1 (.string sa)).setCell (p := ⟨p, 1, none⟩) hlo1 (.string sb)).setCell (p := ⟨p, 2, none⟩) hlo1 (.string sc)).setCell (p := ⟨p, 3, none⟩) hlo1 (.int .i64 xd)).setCell (p := ⟨p, 4, none⟩) hlo1 (.int .i64 xt)).setCell (p := ⟨p, 5, none⟩) hlo1 (.slice xA xn xc))
                          refine wpM_store _ _ _ _ _ ((((((W.setCell ⟨p, 0, none⟩ (.string sa)).setCell ⟨p, 1, none⟩ (.string sb)).setCell ⟨p, 2, none⟩ (.string sc)).setCell ⟨p, 3, none⟩ (.int .i64 xd)).setCell ⟨p, 4, none⟩ (.int .i64 xt)).setCell ⟨p, 5, none⟩ (.slice xA xn xc)) () rfl k1 e0 (by simp [go_sem, q0, q1, q2, q3, q4, q5, f0, f1, f2, f3, f4, f5]) ⟨_, rfl, hbs, fun h => absurd h (by decide), fun τ' t1 t2 => ⟨⟨p, (t2 10 (by decide) (by decide)).trans ep, _, hset, EvV.put hEV hp (.string sa) (.string sb) (.string sc) (.int .i64 xd) (.int .i64 xt) (.slice xA xn xc)⟩, fun j hj hji hu => ?_⟩⟩
                          match j, hj with
                          | 0, _ => exact (t2 0 (by decide) hji).trans (hM.facts 0 (by decide) hu)
                          | 1, _ => exact (t2 1 (by decide) hji).trans (hM.facts 1 (by decide) hu)
                          | 2, _ => exact (t2 2 (by decide) hji).trans (hM.facts 2 (by decide) hu)
                          | 3, _ => exact (t2 3 (by decide) hji).trans (hM.facts 3 (by decide) hu)
                          | 4, _ => exact (t2 4 (by decide) hji).trans (hM.facts 4 (by decide) hu)
                          | 5, _ => 
                            obtain ⟨ev, e, h⟩ := hM.facts 5 (by decide) hu
                            exact ⟨ev, (t2 5 (by decide) hji).trans e, h.put hp (.string sa) (.string sb) (.string sc) (.int .i64 xd) (.int .i64 xt) (.slice xA xn xc)⟩
                          | 6, _ => 
                            obtain ⟨ev, e, h⟩ := hM.facts 6 (by decide) hu
                            exact ⟨ev, (t2 6 (by decide) hji).trans e, h.put hp (.string sa) (.string sb) (.string sc) (.int .i64 xd) (.int .i64 xt) (.slice xA xn xc)⟩
                          | 7, _ => 
                            have h := hM.facts 7 (by decide) hu
                            show EvV _ _ _ _
                            rw [t2 7 (by decide) hji]
                            exact EvV.put h hp (.string sa) (.string sb) (.string sc) (.int .i64 xd) (.int .i64 xt) (.slice xA xn xc)
                          | 8, _ => exact (t2 8 (by decide) hji).trans (hM.facts 8 (by decide) hu)
                          | 9, _ => exact (t2 9 (by decide) hji).trans (hM.facts 9 (by decide) hu)
                          | 10, _ => exact ⟨p, (t2 10 (by decide) (by decide)).trans ep, _, _, _, _, _, _, hset⟩
                          | 11, _ => exact absurd rfl hji
                          | 12, _ => exact (t2 12 (by decide) hji).trans (hM.facts 12 (by decide) hu)
                          | 13, _ => exact (t2 13 (by decide) hji).trans (hM.facts 13 (by decide) hu)
                          | n + 14, hj => exact absurd hj (by simp)
                        | 12, ho =>
                          injection ho with ho
                          subst ho
                          have e0 : ac.eval (.tmp 81) = .int .i64 pp.2.1 := hM.facts 8 (by decide) (ready_up hi (by kernel_rfl))
                          exact wpM_assign _ _ rfl e0 ⟨_, rfl, Below.refl _ _, fun h => absurd h (by decide), fun τ' t1 t2 => ⟨t1 (by simp), fun j hj hji hu => evnF_keep hup11 hni t2 (Below.refl _ _) hM.facts j hj hji hu⟩⟩
                        | 13, ho =>
                          injection ho with ho
                          subst ho
                          have e0 : ac.eval (.tmp 82) = .int .i64 pp.2.2 := hM.facts 9 (by decide) (ready_up hi (by kernel_rfl))
                          exact wpM_assign _ _ rfl e0 ⟨_, rfl, Below.refl _ _, fun h => absurd h (by decide), fun τ' t1 t2 => ⟨t1 (by simp), fun j hj hji hu => evnF_keep hup11 hni t2 (Below.refl _ _) hM.facts j hj hji hu⟩⟩
                        | n + 14, ho => simp at ho
                      case hend =>
                        intro listed ac W hupp hk hM
                        have hbW : Below w9.heap.size w9 W := (Below.refl _ _).drew.trans hM.below
                        obtain ⟨q, e10, cs, hq, hv⟩ := hM.facts 11 (by decide) (hupp 11 (by decide))
                        have x74 := hM.facts 0 (by decide) (hupp 0 (by decide))
                        have x75 := hM.facts 1 (by decide) (hupp 1 (by decide))
                        have x76 := hM.facts 2 (by decide) (hupp 2 (by decide))
                        have x77 := hM.facts 3 (by decide) (hupp 3 (by decide))
                        have x78 := hM.facts 4 (by decide) (hupp 4 (by decide))
                        have x81 := hM.facts 8 (by decide) (hupp 8 (by decide))
                        have x82 := hM.facts 9 (by decide) (hupp 9 (by decide))
                        have x16 := hM.facts 12 (by decide) (hupp 12 (by decide))
                        have x17 := hM.facts 13 (by decide) (hupp 13 (by decide))
                        have y15 : Act.slot ac 15 = .pointer (some ⟨q, 0, none⟩) := e10
                        have y16 : Act.slot ac 16 = .int .i64 pp.2.1 := x16
                        have y17 : Act.slot ac 17 = .int .i64 pp.2.2 := x17
                        refine hK _ _ ?_
                        rw [hk.form (by kernel_rfl)]
                        simp only [putsAll, Option.getD_some, Act.put, List.setIfInBounds_toArray, List.set_cons_zero, List.set_cons_succ, y15, y16, y17]
                        go_meet
                        exact ⟨q, rfl, rfl, rfl, ⟨cs, hq, hv⟩, hbW⟩
                    case rest =>
                      obtain ⟨Q, rfl, rfl, rfl, ⟨cs, hQ, hev⟩, hbQ⟩ := hcut
                      obtain ⟨w10, hw10⟩ : ∃ w10, wc = w10 := ⟨_, rfl⟩
                      rw [hw10] at hQ hev hbQ ⊢
                      obtain ⟨sa, sb, sc, xd, xt, xA, xn, xc, hcs, hev⟩ := hev
                      injection hcs with hcs
                      subst hcs
                      obtain ⟨E, kc, fc⟩ := pp
                      dsimp only at hev HIS HCO
                      have HEX := Lib.hid hev
                      have HQ := Lib.hid hQ
                      have HO10 := Lib.hid (HO9.out.now hbQ)
                      have HP10 := Lib.hid (HP9.out.now hbQ)
                      have HBW10 := Lib.hid (HBW9.out.trans (hbQ.mono HBW9.out.size))
                      have HGB2 := Lib.hid (HGB.out.now hbQ)
                      have HOW2 := Lib.hid (OwnR.now HOW.out REv.kept hbQ)
                      have HCH2 := Lib.hid (HCH.out.trans (Chg.of_below hbQ))
                      have HSQ := Lib.hid hbQ.size
                      have HW9 := Lib.hid (show w8.heap.size ≤ w9.heap.size from HCH.out.size)
                      have HOL := Lib.hid (fun g (h : (Value.slice Al k cl).ownBlock = some g) => (OwnR.lt HOW.out g h).2)
                      have hkc := HCO.out
                      clear hw10 hQ hev hbQ d0 c0 HGB HOW HCH HO9 HP9 HBW9 HBG HM9 HU9 HH9 HEV
                      by_cases hfc : fc = 0
                      case neg =>
                        have HPE : Hid (p = ([], ((k : Int) + 2, kc + 1), fc)) := by show _ = _; rw [HEI.out, HIR.out, HIS.out, if_neg hfc]; rfl
                        have HPC := Lib.hid hfc
                        have e4 : (fc != 0) = true := by simpa using hfc
                        clear hfc
                        have o0 := (HO10.out).c1
                        obtain ⟨p0, p1⟩ := (HP10.out).c2
                        have fo := (HO10.out).frozen 0
                        have f0 := (HP10.out).frozen 0
                        have f1 := (HP10.out).frozen 1
                        go_wp2_with fail
                        obtain ⟨hz1, hz2, hbz⟩ := put_op HO10.out HP10.out (show (w.heap.size + 1) ≠ (w.heap.size + 1 + 1) by omega) HBW10.out (show w.heap.size ≤ (w.heap.size + 1) by omega) (show w.heap.size ≤ (w.heap.size + 1 + 1) by omega) (.slice none 0 0) (.int .i64 ((k : Int) + 2)) (.int .i64 (kc + 1))
                        obtain ⟨wz, hwz⟩ : ∃ wz, (((w10.setCell ⟨w.heap.size + 1, 0, none⟩ (.slice none 0 0)).setCell ⟨w.heap.size + 1 + 1, 0, none⟩ (.int .i64 ((k : Int) + 2))).setCell ⟨w.heap.size + 1 + 1, 1, none⟩ (.int .i64 (kc + 1))) = wz := ⟨_, rfl⟩
                        rw [hwz] at hz1 hz2 hbz ⊢
                        clear hwz
                        have g0 := hz1.c1
                        obtain ⟨g1, g2⟩ := hz2.c2
                        refine bodyPost_ret (v := .tuple #[.agg #[.slice none 0 0], .agg #[.int .i64 ((k : Int) + 2), .int .i64 (kc + 1)], .int .i64 fc]) (by simp [results, Tryz.results16, go_sem, g0, g1, g2]) rfl ?_
                        show RetImp _ _ _ _
                        rw [HPE.out]
                        exact ⟨.slice none 0 0, rfl, Sl.none_, hbz⟩
                      case pos =>
                        subst hfc
                        have HIN : Hid (impRows hd m 0 [] rs = impRows hd m (k + 1) (acc ++ [E]) (rs.drop (k + 1))) := by show _ = _; rw [HIR.out, HIS.out, if_pos rfl]
                        have HREV : Hid (REv (Off (fun b => b < w8.heap.size) w10 (.slice Al k cl)) w10 E [.string sa, .string sb, .string sc, .int .i64 xd, .int .i64 xt, .slice xA xn xc]) := Lib.hid (by
                          obtain ⟨h1, h2, h3, h4⟩ := HEX.out rfl
                          rw [h1]
                          refine ⟨.slice xA xn xc, rfl, by rw [← h1]; exact h2, ?_⟩
                          show SlFl _ _ _ E.data
                          refine Sl.keep (own_btw h3 (Nat.le_refl _) h4) RFld.kept (fun b hb => ⟨hb.2, fun e => ?_, fun e => ?_⟩) (Same.refl _ _)
                          · have := HOL.out b e; have := hb.1; omega
                          · have := hb.1; have := HW9.out; have e : b < w8.heap.size := e; omega)
                        clear HIR HIS HEX HO10 HP10 HBW10
                        obtain ⟨t0, t1, t2, t3, t4, t5⟩ := HQ.out.c6
                        have l0 := HGB2.out.c1
                        have fz := HGB2.out.frozen 0
                        have hsz8 : w8.heap.size ≤ w10.heap.size := HCH2.out.size
                        have HAX := Lib.hid (show acc.length < 10000000 by have := HAL.out; omega)
                        go_wp2_with (at_builtin; refine wpList_pushR (X := fun b => b < w8.heap.size) (base := w8.heap.size) appEvs REv.kept rfl (.tmp 93) (.tmp 95) rfl w10 [.string sa, .string sb, .string sc, .int .i64 xd, .int .i64 xt, .slice xA xn xc] rfl (by intro v hv; simp at hv; rcases hv with rfl | rfl | rfl | rfl | rfl | rfl <;> rfl) _ acc E rfl HOW2.out HREV.out rfl HAX.out hsz8 ?_; intro v' w11 hown hgr hat; have hne : some G ≠ (Value.slice Al k cl).ownBlock := (fun e => by have h1 := (OwnR.lt HOW2.out _ e.symm).1; have h3 := HS8.out; omega); have gb := (HGB2.out.grown hgr hne).c1; have gf := (HGB2.out.grown hgr hne).frozen 0; obtain ⟨Av, cv, hav⟩ := OwnR.open_ hown; have hlen : (acc ++ [E]).length = k + 1 := (by rw [List.length_append, HAL.out]; rfl); rw [hlen] at hav; subst hav; have HGB3 := Lib.hid (HGB2.out.grown hgr hne); have HOW3 := Lib.hid hown; have HCH3 := Lib.hid (HCH2.out.more hgr (fun g hg => .inl (OwnR.lt HOW2.out g hg).1)); clear hown hgr hat hne hlen)
                        have hGX : G < w8.heap.size := by have := HS8.out; omega
                        have HOW4 := Lib.hid (OwnR.far (p := ⟨G, 0, none⟩) HOW3.out REv.kept hGX (fun e => by have := (OwnR.lt HOW3.out _ e).1; have e2 : (⟨G, 0, none⟩ : Addr).block = G := rfl; rw [e2] at this; omega) (.slice Av (k + 1) cv))
                        have HGB4 := Lib.hid (HGB3.out.set_ 0 (.slice Av (k + 1) cv))
                        have HCH4 := Lib.hid (HCH3.out.set (p := ⟨G, 0, none⟩) (.inr (show One G G from rfl)) (.slice Av (k + 1) cv))
                        go_roundw
                        case rel => exact ⟨k + 1, acc ++ [E], _, by go_num, by omega, Lib.hid (by rw [List.length_append, HAL.out]; rfl), Lib.hid (fun e => by simp at e), HGB4, HOW4, HCH4, HIN⟩
                        case measure => simp [intOf]; omega
                · have hkk : k = rs.length := by omega
                  have HFIN : Hid (impRows hd m 0 [] rs = (acc, (0, 0), 0)) := by show _ = _; rw [HIR.out, hkk, List.drop_length]; rfl
                  have HPE : Hid (p = (sortS tlt acc, (0, 0), 0)) := by show _ = _; rw [HEI.out, HFIN.out]
                  have hkl : k = acc.length := HAL.out.symm
                  have hal : acc.length ≤ 2000 := by omega
                  rw [hkl] at HOW HGB HNL
                  have HSTB : Hid (Calls Tryz.prog 55 #[.slice Al acc.length cl, .func (.func 56) #[] #[]] wr fun e w' => e = .returned (.tuple #[]) ∧ OwnR 6 REv (fun b => b < w8.heap.size) w' w8.heap.size 69 (.slice Al acc.length cl) (sortS tlt acc) ∧ ∃ row, wr.grownBy w' row ∧ ∀ g, row = some g → w8.heap.size ≤ g) := Lib.hid (by
                    by_cases hac : acc = []
                    · have hx := HNL.out hac
                      rw [hx]
                      refine (stable_none wr).mono ?_
                      rintro e w' ⟨rfl, rfl⟩
                      refine ⟨rfl, ?_, none, grown_of_below (Below.refl _ _) none, fun g e => by cases e⟩
                      rw [hac]
                      exact OwnR.nil
                    · have hpos : 0 < acc.length := List.length_pos_iff.2 hac
                      obtain ⟨g, cap, hv⟩ : ∃ g cap, Value.slice Al acc.length cl = .slice (some ⟨g, 0, none⟩) acc.length cap := by
                        obtain ⟨cs, h1, _⟩ := HOW.out
                        rcases h1.2 with ⟨_, h0⟩ | ⟨g, cap, cur, h2, _⟩
                        · omega
                        · exact ⟨g, cap, h2⟩
                      injection hv with hv1 _ hv2
                      have HO := HOW.out
                      subst hv1 hv2
                      refine (stableR_any HO hpos (by omega)).mono ?_
                      rintro e w' ⟨rfl, h1, h2⟩
                      exact ⟨rfl, h1, _, h2, fun g' e => (OwnR.lt HO g' (by rw [← e]; rfl)).1⟩)
                  have l0 := HGB.out.c1
                  clear hkk hkl HAL HNL HIR HFIN HEI
                  obtain ⟨w9, hw9⟩ : ∃ w9, wr = w9 := ⟨_, rfl⟩
                  rw [hw9] at HSTB HGB HOW HCH l0 ⊢
                  have HBG : Hid (Below G w8 w9) := HCH.out.below (B := G) (by have := HS8.out; omega) fun i hi e => by have e : i = G := e; omega
                  clear hw9
                  go_wp2_with fail
                  (with_reducible refine HSTB.out.mono ?_)
                  rintro _ w10 ⟨rfl, hso, row, hgr, hrow⟩
                  have HSO := Lib.hid hso
                  have HGB2 := Lib.hid (HGB.out.grown hgr (fun e => by have := hrow _ e.symm; have := HS8.out; omega))
                  have HB9 : Hid (Below w.heap.size w w9) := HB8.out.trans (HBG.out.mono (by have := HGW.out; omega))
                  have HB10 : Hid (Below w.heap.size w w10) := HB9.out.grown hgr HB9.out.size (fun g' e => by have := hrow g' e; have := HB8.out.size; omega)
                  have HO10 := Lib.hid ((HO8.out.chg HCH.out (show ¬ (w.heap.size + 1) = G by have := HGW.out; omega)).grown hgr (fun e => by have := hrow _ e.symm; have := HGW.out; have := HS8.out; omega))
                  have HP10 := Lib.hid ((HP8.out.chg HCH.out (show ¬ (w.heap.size + 1 + 1) = G by have := HGW.out; omega)).grown hgr (fun e => by have := hrow _ e.symm; have := HGW.out; have := HS8.out; omega))
                  clear hso hgr hrow
                  have b0 := HGB2.out.c1
                  have o0 := (HO10.out).c1
                  obtain ⟨p0, p1⟩ := (HP10.out).c2
                  have fo := (HO10.out).frozen 0
                  have f0 := (HP10.out).frozen 0
                  have f1 := (HP10.out).frozen 1
                  go_wp2_with fail
                  obtain ⟨hz1, hz2, hbz⟩ := put_op HO10.out HP10.out (show (w.heap.size + 1) ≠ (w.heap.size + 1 + 1) by omega) HB10.out (show w.heap.size ≤ (w.heap.size + 1) by omega) (show w.heap.size ≤ (w.heap.size + 1 + 1) by omega) (.slice Al acc.length cl) (.int .i64 0) (.int .i64 0)
                  have hX1 : w.heap.size + 1 < w8.heap.size := by have := HGW.out; have := HS8.out; omega
                  have hX2 : w.heap.size + 1 + 1 < w8.heap.size := by have := HGW.out; have := HS8.out; omega
                  have hne : ∀ b, b < w8.heap.size → (Value.slice Al acc.length cl).ownBlock ≠ some b := fun b hb e => by have := (OwnR.lt HSO.out b e).1; omega
                  have q1 := OwnR.far (p := ⟨w.heap.size + 1, 0, none⟩) HSO.out REv.kept hX1 (hne _ hX1) (.slice Al acc.length cl)
                  have q2 := OwnR.far (p := ⟨w.heap.size + 1 + 1, 0, none⟩) q1 REv.kept hX2 (hne _ hX2) (.int .i64 0)
                  have q3 := OwnR.far (p := ⟨w.heap.size + 1 + 1, 1, none⟩) q2 REv.kept hX2 (hne _ hX2) (.int .i64 0)
                  have q4 := OwnR.sl q3 REv.kept
                  clear q1 q2 q3
                  generalize ((w10.setCell ⟨w.heap.size + 1, 0, none⟩ (.slice Al acc.length cl)).setCell ⟨w.heap.size + 1 + 1, 0, none⟩ (.int .i64 0)).setCell ⟨w.heap.size + 1 + 1, 1, none⟩ (.int .i64 0) = wz at q4 hz1 hz2 hbz ⊢
                  have r0 := hz1.c1
                  obtain ⟨r1, r2⟩ := hz2.c2
                  refine bodyPost_ret (v := .tuple #[.agg #[.slice Al acc.length cl], .agg #[.int .i64 0, .int .i64 0], .int .i64 0]) (by simp [results, Tryz.results16, go_sem, r0, r1, r2]) rfl ?_
                  show RetImp _ _ _ _
                  rw [HPE.out]
                  exact ⟨_, rfl, q4, hbz⟩
end Go.Proofs.YtoalecalahkblaaGreatDoor
