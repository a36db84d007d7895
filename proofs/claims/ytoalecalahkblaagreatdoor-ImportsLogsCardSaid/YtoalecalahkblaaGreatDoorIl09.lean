/- Texts of this seat, merged. -/
import Derived.Lib.OwnKind
import Derived.Test.YtoalecalahkblaaGreatDoorIl01
import Derived.Test.YtoalecalahkblaaGreatDoorIl02
import Derived.Test.YtoalecalahkblaaGreatDoorIl03
import Derived.Test.YtoalecalahkblaaGreatDoorIl04
import Derived.Test.YtoalecalahkblaaGreatDoorIl06
import Derived.Test.YtoalecalahkblaaGreatDoorIl07
set_option linter.all false
set_option linter.all false
namespace Go.Proofs.YtoalecalahkblaaGreatDoor
open Go.RowKit
theorem kind_neG {w : World} {e1 e2 size1 size2 n1 n2 B1 B2 : Nat} {u1 u2 : Value} {c1 c2 : List Value} (h1 : w.ownsRow B1 e1 size1 u1 n1 c1) (h2 : w.ownsRow B2 e2 size2 u2 n2 c2) (hne : e1 ≠ e2) : u1.ownBlock = none ∨ u1.ownBlock ≠ u2.ownBlock := by
  cases e : u1.ownBlock with
  | none => exact .inl rfl
  | some g =>
    refine .inr fun e' => ?_
    obtain ⟨c, f, k1⟩ := Lib.ownsRow_kind h1 g e
    obtain ⟨c', f', k2⟩ := Lib.ownsRow_kind h2 g e'.symm
    have := k1.symm.trans k2
    injection this with this
    injection this with _ e2 _
    exact hne e2
def REq1 {α : Type} (f : α → Value) : ElemR α := fun _ _ y c => c = [f y]
structure GsR (B : Nat) (W0 w : World) (dv kv sv : Value) (data kinds : List Int) (seen : List Bt) : Prop where
  bel : Below W0.heap.size W0 w
  dat : OwnZ w B dv data
  kin : OwnZ w B kv kinds
  sn : OwnT w B sv seen
  ne : ∀ g, dv.ownBlock = some g → kv.ownBlock ≠ some g
  size : B ≤ w.heap.size
  base : W0.heap.size ≤ B
structure OffG (w : World) (dv kv sv : Value) (g t : Nat) (cs : Array Value) : Prop where
  blk : Blk w g t cs
  n1 : dv.ownBlock ≠ some g
  n2 : kv.ownBlock ≠ some g
  n3 : sv.ownBlock ≠ some g
section
variable {B g t : Nat} {W0 w w' : World} {dv kv sv : Value} {data kinds : List Int} {seen : List Bt} {cs : Array Value}
theorem OwnZ.now {base : Nat} {v : Value} {zs : List Int} (h : OwnZ w base v zs) (hb : Below w.heap.size w w') : OwnZ w' base v zs := own_now h hb
theorem GsR.now (h : GsR B W0 w dv kv sv data kinds seen) (hb : Below w.heap.size w w') : GsR B W0 w' dv kv sv data kinds seen :=
  ⟨h.bel.trans (hb.mono h.bel.size), own_now h.dat hb, own_now h.kin hb, own_now h.sn hb, h.ne, Nat.le_trans h.size hb.size, h.base⟩
theorem OffG.now (h : OffG w dv kv sv g t cs) (hb : Below w.heap.size w w') : OffG w' dv kv sv g t cs := ⟨h.blk.now hb, h.n1, h.n2, h.n3⟩
theorem OffG.new (h : GsR B W0 w dv kv sv data kinds seen) (t : Nat) (cs : Array Value) : OffG (w.alloc (.cells cs t)) dv kv sv w.heap.size t cs :=
  ⟨Blk.new w t cs, fun e => by have := own_lt h.dat _ e; unfold Lt at this; omega, fun e => by have := own_lt h.kin _ e; unfold Lt at this; omega, fun e => by have := own_lt h.sn _ e; unfold Lt at this; omega⟩
theorem OffG.low (h : GsR B W0 w dv kv sv data kinds seen) (hk : Blk w g t cs) (hg : g < B) : OffG w dv kv sv g t cs :=
  ⟨hk, fun e => by have := (World.ownsRow.lt h.dat g e).1; omega, fun e => by have := (World.ownsRow.lt h.kin g e).1; omega, fun e => by have := (World.ownsRow.lt h.sn g e).1; omega⟩
theorem GsR.chg (h : GsR B W0 w dv kv sv data kinds seen) {v : Value} (h3 : w.grownBy w' v.ownBlock) (hv : ∀ g, v.ownBlock = some g → B ≤ g) : Below W0.heap.size W0 w' :=
  h.bel.trans (below_of_grown h3 h.bel.size (fun g hg => Nat.le_trans h.base (hv g hg)))
theorem GsR.set_ (h : GsR B W0 w dv kv sv data kinds seen) {G k : Nat} {u : Value} (h1 : W0.heap.size ≤ G) (h2 : G < B) : GsR B W0 (w.setCell ⟨G, k, none⟩ u) dv kv sv data kinds seen := by
  have key : w.grownBy (w.setCell ⟨G, k, none⟩ u) (some G) := ⟨rfl, rfl, rfl, by simp, fun i _ hne => Below.heap_setCell w ⟨G, k, none⟩ u i (fun e => hne (by rw [e]))⟩
  have nx : ∀ {e size n : Nat} {v : Value} {c : List Value}, w.ownsRow B e size v n c → v.ownBlock = none ∨ v.ownBlock ≠ some G := fun hh => .inr fun e => by have := (World.ownsRow.lt hh G e).1; omega
  exact ⟨h.bel.trans (below_of_grown key h.bel.size (fun g hg => by injection hg with hg; omega)), World.ownsRow.kept h.dat key (nx h.dat), World.ownsRow.kept h.kin key (nx h.kin), World.ownsRow.kept h.sn key (nx h.sn), h.ne, by simpa using h.size, h.base⟩
end
end Go.Proofs.YtoalecalahkblaaGreatDoor

set_option linter.all false
namespace Go.Proofs.YtoalecalahkblaaGreatDoor
open Go.RowKit
theorem SlP.cellAt {D : Nat → Prop} {w : World} {ls : List Bt} {A : Option Addr} {n c k : Nat} {l : Bt} (h : SlP D w (.slice A n c) ls) (hk : ls[k]? = some l) (hn : ls.length = n) :
    ∃ b o, A = some ⟨b, o, none⟩ ∧ D b ∧ l.length ≤ maxLen ∧ w.cell? ⟨b, o + k, none⟩ = some (.string (bsOf l)) := by
  obtain ⟨b, o, x, h1, h2, h3, h4, h5⟩ := SlP.at_ h (k := k) (by rw [← hn]; exact (List.getElem?_eq_some_iff.1 hk).1)
  rw [hk] at h3
  injection h3 with h3
  subst h3
  exact ⟨b, o, h1, h2, h4, h5⟩
abbrev ev0C : Array Value := #[.string ⟨#[]⟩, .string ⟨#[]⟩, .string ⟨#[]⟩, .int .i64 0, .int .i64 0, .slice none 0 0]
set_option maxHeartbeats 8000000 in
set_option maxRecDepth 100000 in
theorem event_plain (r hd : List Bt) (rv hv u : Value) (m : Mp) (w : World) (hr : SlP (Lt w.heap.size) w rv r) (h : IsMp (Lt w.heap.size) w u m) (hres : m.res = -1) (hlife : m.life = -1) (hdat : m.data = []) (i j k : Nat) (hci : m.cas = (i : Int)) (hcj : m.act = (j : Int)) (hck : m.time = (k : Int)) (a b t : Bt)
    (hri : r[i]? = some a) (hrj : r[j]? = some b) (hrk : r[k]? = some t) (hna : isNameB (bsOf a) = true) (hnb : isNameB (bsOf b) = true) (n : Int) (hnt : natE t = (n, 0)) (htl : t.length ≤ 1000000) (ha : AmbP w) :
    Calls Tryz.prog 54 #[rv, hv, u] w fun e w' => e = .returned (.tuple #[.agg #[.string (bsOf a), .string (bsOf b), .string ⟨#[]⟩, .int .i64 5, .int .i64 n, .slice none 0 0], .int .i64 0, .int .i64 0]) ∧ Below w.heap.size w w' := by
  obtain ⟨Ar, cr, rfl, _, _, hr⟩ := hr.open_
  obtain ⟨b0, o0, hA, hD0, hla, ca⟩ := hr.cellAt hri rfl
  obtain ⟨b1, o1, hA1, _, hlb, cb⟩ := hr.cellAt hrj rfl
  obtain ⟨b2, o2, hA2, _, hlt, ct⟩ := hr.cellAt hrk rfl
  subst hA
  injection hA1 with hA1
  injection hA1 with e1 e2 _
  subst e1 e2
  injection hA2 with hA2
  injection hA2 with e1 e2 _
  subst e1 e2
  have hil : i < r.length := (List.getElem?_eq_some_iff.1 hri).1
  have hjl : j < r.length := (List.getElem?_eq_some_iff.1 hrj).1
  have hkl : k < r.length := (List.getElem?_eq_some_iff.1 hrk).1
  have HIA : Hid (∀ W, Calls Tryz.prog 76 #[.string (bsOf a)] W fun e w' => e = .returned (.bool true) ∧ W = w') := fun W => by have := isName_any (bsOf a) W (by rw [bs_size]; exact hla); rwa [hna] at this
  have HIB : Hid (∀ W, Calls Tryz.prog 76 #[.string (bsOf b)] W fun e w' => e = .returned (.bool true) ∧ W = w') := fun W => by have := isName_any (bsOf b) W (by rw [bs_size]; exact hlb); rwa [hnb] at this
  have HN : Hid (∀ W, AmbP W → Calls Tryz.prog 99 #[.string (bsOf t)] W fun e w' => e = .returned (.tuple #[.int .i64 n, .int .i64 0]) ∧ Below W.heap.size W w') := fun W hW => by
    have := natural_any (bsOf t) W (by rw [bs_size]; exact htl) hW
    rw [show (bsOf t).data.toList = t from rfl, hnt] at this
    exact this
  have HAM := Lib.hid ha
  have HD0 : Hid (b0 < w.heap.size) := hD0
  obtain ⟨dv, kv, rfl, hfm, hd, hk⟩ := h
  obtain ⟨Ad, cd, rfl, _, _, hd⟩ := hd.open_
  obtain ⟨Ak, ck, rfl, _, _, hk⟩ := hk.open_
  have hdl : m.data.length = 0 := by rw [hdat]; rfl
  unfold mpV
  rw [hres, hlife, hci, hcj, hck, hdl]
  obtain ⟨z, hz⟩ : ∃ z, (m.sep.toNat : Int) = z := ⟨_, rfl⟩
  rw [hz]
  generalize m.kinds.length = kn
  generalize bsOf a = sa at *
  generalize bsOf b = sb at *
  generalize bsOf t = st at *
  clear hfm hd hk hz hdl hdat hres hlife hci hcj hck hr hri hrj hrk hna hnb hnt htl ha hla hlb hlt hD0
  -- the boxes
  have hb1 := bone w (.cells #[.int .i64 (i : Int), .int .i64 (j : Int), .int .i64 (-1), .int .i64 (-1), .int .i64 (k : Int), .slice Ad 0 cd, .slice Ak kn ck, .int .u8 z] 33)
  have hB1 := Blk.new w 33 #[.int .i64 (i : Int), .int .i64 (j : Int), .int .i64 (-1), .int .i64 (-1), .int .i64 (k : Int), .slice Ad 0 cd, .slice Ak kn ck, .int .u8 z]
  have hs1 : (w.alloc (.cells #[.int .i64 (i : Int), .int .i64 (j : Int), .int .i64 (-1), .int .i64 (-1), .int .i64 (k : Int), .slice Ad 0 cd, .slice Ak kn ck, .int .u8 z] 33)).heap.size = w.heap.size + 1 := by simp
  obtain ⟨w1, hw1⟩ : ∃ w1, w.alloc (.cells #[.int .i64 (i : Int), .int .i64 (j : Int), .int .i64 (-1), .int .i64 (-1), .int .i64 (k : Int), .slice Ad 0 cd, .slice Ak kn ck, .int .u8 z] 33) = w1 := ⟨_, rfl⟩
  rw [hw1] at hb1 hB1 hs1
  have hb2 := bone w1 (.cells ev0C 69)
  have hB2 := Blk.new w1 69 ev0C
  have hs2 : (w1.alloc (.cells ev0C 69)).heap.size = w.heap.size + 2 := by simp [hs1]
  rw [hs1] at hB2
  obtain ⟨w2, hw2⟩ : ∃ w2, w1.alloc (.cells ev0C 69) = w2 := ⟨_, rfl⟩
  rw [hw2] at hB2 hs2 hb2
  have HW : Hid ((w.alloc (.cells #[.int .i64 (i : Int), .int .i64 (j : Int), .int .i64 (-1), .int .i64 (-1), .int .i64 (k : Int), .slice Ad 0 cd, .slice Ak kn ck, .int .u8 z] 33)).alloc (.cells ev0C 69) = w2) := by show _ = _; rw [hw1, hw2]
  have HM2 := Lib.hid (hB1.now hb2)
  have HE2 := Lib.hid hB2
  have HBW2 := Lib.hid (bthen hb1 hb2)
  have HS2 := Lib.hid hs2
  clear hb1 hB1 hs1 hw1 hb2 hB2 hs2 hw2
  go_enter Tryz.func54, Tryz.ntmps54
  go_upto_region 1 with fail
  rw [HW.out]
  clear HW
  have HBA := Lib.hid (bone w2 (.cells ev0C 69))
  obtain ⟨c0, c1, c2, c3, c4, c5, c6, c7⟩ := HM2.out.c8m
  obtain ⟨d0, d1, d2, d3, d4, d5, d6, d7⟩ := (HM2.out.now HBA.out).c8m
  have x0 := (HBW2.out.cell (p := ⟨b0, o0 + i, none⟩) HD0.out).trans ca
  have x1 := (HBW2.out.cell (p := ⟨b0, o0 + j, none⟩) HD0.out).trans cb
  have hbl : b0 < w2.heap.size := by have := HD0.out; have := HBW2.out.size; omega
  have y0 := (HBA.out.cell (p := ⟨b0, o0 + i, none⟩) hbl).trans x0
  have y1 := (HBA.out.cell (p := ⟨b0, o0 + j, none⟩) hbl).trans x1
  have ii0 : (0 : Int) ≤ (i : Int) := by omega
  have ii1 : (i : Int) < (r.length : Int) := by omega
  have jj0 : (0 : Int) ≤ (j : Int) := by omega
  have jj1 : (j : Int) < (r.length : Int) := by omega
  unfold ev0C at d0 d1 d2 d3 d4 d5 d6 d7 y0 y1
  clear hbl
  go_region
  have HB3 : Hid (Below w2.heap.size w2 (w2.alloc (.cells #[.string sa, .string sb, .string ⟨#[]⟩, .int .i64 5, .int .i64 0, .slice none 0 0] 69)).drew) := (bone w2 _).drew
  have HE3 : Hid (Blk (w2.alloc (.cells #[.string sa, .string sb, .string ⟨#[]⟩, .int .i64 5, .int .i64 0, .slice none 0 0] 69)).drew w2.heap.size 69 #[.string sa, .string sb, .string ⟨#[]⟩, .int .i64 5, .int .i64 0, .slice none 0 0]) := (Blk.new w2 _ _).drew
  obtain ⟨w3, hw3⟩ : ∃ w3, (w2.alloc (.cells #[.string sa, .string sb, .string ⟨#[]⟩, .int .i64 5, .int .i64 0, .slice none 0 0] 69)).drew = w3 := ⟨_, rfl⟩
  rw [hw3] at HB3 HE3 ⊢
  have HM3 := Lib.hid (HM2.out.now HB3.out)
  have HR3 := Lib.hid (HE2.out.now HB3.out)
  have HBW3 := Lib.hid (bthen HBW2.out HB3.out)
  obtain ⟨E, hE⟩ : ∃ E, w2.heap.size = E := ⟨_, rfl⟩
  rw [hE] at HE3 HS2 ⊢
  rw [HS2.out] at hE
  have HEE := Lib.hid HS2.out
  have hEw : w.heap.size + 1 < E := by have := HS2.out; omega
  have HEW := Lib.hid hEw
  clear c0 c1 c2 c3 c4 c5 c6 c7 d0 d1 d2 d3 d4 d5 d6 d7 x0 x1 y0 y1 hw3 hE hEw HBA HM2 HE2 HBW2 HS2
  obtain ⟨c0, c1, c2, c3, c4, c5, c6, c7⟩ := HM3.out.c8m
  obtain ⟨e0, e1, e2, e3, e4, e5⟩ := HE3.out.c6
  have xt := (HBW3.out.cell (p := ⟨b0, o0 + k, none⟩) HD0.out).trans ct
  have kk0 : (0 : Int) ≤ (k : Int) := by omega
  have kk1 : (k : Int) < (r.length : Int) := by omega
  have HNW := Lib.hid (HN.out w3 (HAM.out.now HBW3.out))
  go_wp2_with (first
    | (go_at_call 76; (with_reducible refine (HIA.out _).mono ?_); rintro x w' ⟨rfl, rfl⟩)
    | (go_at_call 76; (with_reducible refine (HIB.out _).mono ?_); rintro x w' ⟨rfl, rfl⟩))
  (with_reducible refine HNW.out.mono ?_)
  rintro _ w4 ⟨rfl, hb4⟩
  have HM4 := Lib.hid (HM3.out.now hb4)
  have HE4 := Lib.hid (HE3.out.now hb4)
  have HR4 := Lib.hid (HR3.out.now hb4)
  have HBW4 := Lib.hid (bthen HBW3.out hb4)
  clear c0 c1 c2 c3 c4 c5 c6 c7 e0 e1 e2 e3 e4 e5 xt HM3 HE3 HR3 HBW3 HNW hb4
  obtain ⟨c0, c1, c2, c3, c4, c5, c6, c7⟩ := HM4.out.c8m
  obtain ⟨e0, e1, e2, e3, e4, e5⟩ := HE4.out.c6
  have f4 := HE4.out.frozen 4
  go_upto_region 19 with fail
  have HE5 : Hid (Blk (w4.setCell ⟨E, 4, none⟩ (.int .i64 n)) E 69 #[.string sa, .string sb, .string ⟨#[]⟩, .int .i64 5, .int .i64 n, .slice none 0 0]) := HE4.out.set_ 4 (.int .i64 n)
  have HM5 := Lib.hid (HM4.out.far (p := ⟨E, 4, none⟩) (show w.heap.size ≠ E by have := HEW.out; omega) (.int .i64 n))
  have HR5 := Lib.hid (HR4.out.far (p := ⟨E, 4, none⟩) (show w.heap.size + 1 ≠ E by have := HEW.out; omega) (.int .i64 n))
  have HBW5 := Lib.hid (HBW4.out.setCell (p := ⟨E, 4, none⟩) (show w.heap.size ≤ E by have := HEW.out; omega) (.int .i64 n))
  obtain ⟨w5, hw5⟩ : ∃ w5, w4.setCell ⟨E, 4, none⟩ (.int .i64 n) = w5 := ⟨_, rfl⟩
  rw [hw5] at HE5 HM5 HR5 HBW5 ⊢
  clear c0 c1 c2 c3 c4 c5 c6 c7 e0 e1 e2 e3 e4 e5 f4 hw5 HM4 HE4 HR4 HBW4
  obtain ⟨c0, c1, c2, c3, c4, c5, c6, c7⟩ := HM5.out.c8m
  obtain ⟨e0, e1, e2, e3, e4, e5⟩ := HE5.out.c6
  obtain ⟨r0, r1, r2, r3, r4, r5⟩ := HR5.out.c6
  have f0 := HR5.out.frozen 0
  have f1 := HR5.out.frozen 1
  have f2 := HR5.out.frozen 2
  have f3 := HR5.out.frozen 3
  have f4 := HR5.out.frozen 4
  have f5 := HR5.out.frozen 5
  have HSF := Lib.hid (show Calls Tryz.prog 101 #[.slice none 0 0, .func (.func 102) #[] #[]] w5 fun e w' => e = .returned (.tuple #[]) ∧ w' = w5 from Go.Proofs.AnyF.slices_SortFunc_none Tryz.sortE none 0 _ w5)
  go_wp2_with fail
  go_loopw [103] (fun iv wr => iv = .int .i64 0 ∧ w5 = wr) (fun _ _ => 0)
  case atStart => exact ⟨rfl, rfl⟩
  case round =>
    obtain ⟨rfl, rfl⟩ := hrel
    go_wp2_with fail
    (with_reducible refine HSF.out.mono ?_)
    rintro _ w6 ⟨rfl, rfl⟩
    go_wp2_with fail
    have hz : Blk ((((((w6.setCell ⟨w.heap.size + 1, 0, none⟩ (.string sa)).setCell ⟨w.heap.size + 1, 1, none⟩ (.string sb)).setCell ⟨w.heap.size + 1, 2, none⟩ (.string ⟨#[]⟩)).setCell ⟨w.heap.size + 1, 3, none⟩ (.int .i64 5)).setCell ⟨w.heap.size + 1, 4, none⟩ (.int .i64 n)).setCell ⟨w.heap.size + 1, 5, none⟩ (.slice none 0 0)) (w.heap.size + 1) 69 #[.string sa, .string sb, .string ⟨#[]⟩, .int .i64 5, .int .i64 n, .slice none 0 0] :=
      (((((HR5.out.set_ 0 (.string sa)).set_ 1 (.string sb)).set_ 2 (.string ⟨#[]⟩)).set_ 3 (.int .i64 5)).set_ 4 (.int .i64 n)).set_ 5 (.slice none 0 0)
    have hle : w.heap.size ≤ w.heap.size + 1 := by omega
    have hbz := (((((HBW5.out.setCell (p := ⟨w.heap.size + 1, 0, none⟩) hle (.string sa)).setCell (p := ⟨w.heap.size + 1, 1, none⟩) hle (.string sb)).setCell (p := ⟨w.heap.size + 1, 2, none⟩) hle (.string ⟨#[]⟩)).setCell (p := ⟨w.heap.size + 1, 3, none⟩) hle (.int .i64 5)).setCell (p := ⟨w.heap.size + 1, 4, none⟩) hle (.int .i64 n)).setCell (p := ⟨w.heap.size + 1, 5, none⟩) hle (.slice none 0 0)
    generalize (((((w6.setCell ⟨w.heap.size + 1, 0, none⟩ (.string sa)).setCell ⟨w.heap.size + 1, 1, none⟩ (.string sb)).setCell ⟨w.heap.size + 1, 2, none⟩ (.string ⟨#[]⟩)).setCell ⟨w.heap.size + 1, 3, none⟩ (.int .i64 5)).setCell ⟨w.heap.size + 1, 4, none⟩ (.int .i64 n)).setCell ⟨w.heap.size + 1, 5, none⟩ (.slice none 0 0) = wz at hz hbz ⊢
    obtain ⟨q0, q1, q2, q3, q4, q5⟩ := hz.c6
    refine bodyPost_ret (v := .tuple #[.agg #[.string sa, .string sb, .string ⟨#[]⟩, .int .i64 5, .int .i64 n, .slice none 0 0], .int .i64 0, .int .i64 0]) (by simp [results, Tryz.results54, go_sem, q0, q1, q2, q3, q4, q5]) rfl ?_
    exact ⟨rfl, hbz⟩
end Go.Proofs.YtoalecalahkblaaGreatDoor
