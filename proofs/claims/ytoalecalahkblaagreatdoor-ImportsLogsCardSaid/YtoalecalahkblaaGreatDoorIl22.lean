/- Texts of this seat, merged. -/
import Derived.BigQuiet
import Derived.Test.YtoalecalahkblaaGreatDoorIl01
import Derived.Test.YtoalecalahkblaaGreatDoorIl02
import Derived.Test.YtoalecalahkblaaGreatDoorIl03
import Derived.Test.YtoalecalahkblaaGreatDoorIl04
import Derived.Test.YtoalecalahkblaaGreatDoorIl05
import Derived.Test.YtoalecalahkblaaGreatDoorIl06
import Derived.Test.YtoalecalahkblaaGreatDoorIl07
import Derived.Test.YtoalecalahkblaaGreatDoorIl08
import Derived.Test.YtoalecalahkblaaGreatDoorIl09
import Derived.Test.YtoalecalahkblaaGreatDoorIl10
import Derived.Test.YtoalecalahkblaaGreatDoorIl11
import Derived.Test.YtoalecalahkblaaGreatDoorIl12
import Derived.Test.YtoalecalahkblaaGreatDoorIl13
import Derived.Test.YtoalecalahkblaaGreatDoorIl14
import Derived.Test.YtoalecalahkblaaGreatDoorIl18
import Derived.Test.YtoalecalahkblaaGreatDoorIl19
import Derived.Test.YtoalecalahkblaaGreatDoorIl20
import Derived.Test.YtoalecalahkblaaGreatDoorIl21
set_option linter.all false
set_option linter.all false
namespace Go.Proofs.YtoalecalahkblaaGreatDoor
open Go.RowKit
theorem dat_code (s : ByteArray) (k : Int) : (datE s k).2 = 0 ∨ (datE s k).2 = 11 := by
  unfold datE
  split
  · split
    · exact .inl rfl
    · exact .inr rfl
  · split
    · exact .inr rfl
    · exact .inl rfl
theorem enters_fieldR : ∀ args w, (callFunc 112 args).run Tryz.prog w = .ok (.enter 112 args) w := enters_of Tryz.func112 (by kernel_rfl) rfl
theorem fld_put {w w3 : World} {E base : Nat} {a b c d e u v : Value} {L : List Fld} (hE : Blk w E 69 #[a, b, c, d, e, u]) (hEb : E < base) (hb : Below E w3 w) (ho : OwnFl w base v L) :
    Blk (w.setCell ⟨E, 5, none⟩ v) E 69 #[a, b, c, d, e, v] ∧ OwnFl (w.setCell ⟨E, 5, none⟩ v) base v L ∧ Below E w3 (w.setCell ⟨E, 5, none⟩ v) := by
  refine ⟨hE.set_ 5 v, ?_, hb.setCell (p := ⟨E, 5, none⟩) (Nat.le_refl E) v⟩
  refine World.ownsRow.kept ho (Chg.grown (R := E) (Chg.refl.set (p := ⟨E, 5, none⟩) (.inr (show One E E from rfl)) v)) ?_
  cases e : v.ownBlock with
  | none => exact .inl rfl
  | some g => exact .inr (fun h' => by injection h' with h'; have := (World.ownsRow.lt ho g e).1; omega)
def insF (VS HS VM VV FF : Value) (M E db do_ q hb ho d T : Nat) (y : ByteArray) (P12 : Value → World → Prop) (P14 : World → Prop) : Nat → Value → World → Prop
  | 0, u, _ => u = .pointer (some ⟨E, 5, none⟩)
  | 1, u, _ => u = VS
  | 2, u, _ => u = HS
  | 3, u, _ => u = .pointer (some ⟨M, 5, none⟩)
  | 4, u, _ => u = VM
  | 5, u, _ => u = .int .i64 (q : Int)
  | 6, u, _ => u = .pointer (some ⟨db, do_ + q, none⟩)
  | 7, u, _ => u = .int .i64 (d : Int)
  | 8, u, _ => u = .pointer (some ⟨hb, ho + d, none⟩)
  | 9, u, _ => u = .string (y)
  | 10, u, _ => u = VV
  | 11, u, _ => u = FF
  | 12, u, W => P12 u W
  | 13, u, _ => u = .pointer (some ⟨E, 5, none⟩)
  | 14, _, W => P14 W
  | _, _, _ => True
def insD (j k : Nat) : Bool := j == 12 && k == 14
set_option maxHeartbeats 8000000 in
set_option maxRecDepth 100000 in
theorem row_ref (r hd : List Bt) (rv hv u : Value) (m : Mp) (w : World) (hr : SlP (Lt w.heap.size) w rv r) (hh : SlP (Lt w.heap.size) w hv hd) (h : IsMp (Lt w.heap.size) w u m) (hok : MpOk m) (hcol : ∀ k ∈ colsX m, k < (r.length : Int)) (hlen : hd.length = r.length)
    (hrl : ∀ c ∈ r, c.length ≤ 1000000) (hhl : ∀ c ∈ hd, c.length ≤ maxLen) (hnd : (m.data.map (cellAt hd)).Nodup) :
    Calls Tryz.prog 60 #[rv, hv, u] w (RetEv (evE r hd m) w) := by
  obtain ⟨i, hi⟩ : ∃ i : Nat, m.cas = (i : Int) := ⟨m.cas.toNat, by have := hok.cas; omega⟩
  obtain ⟨j, hj⟩ : ∃ j : Nat, m.act = (j : Int) := ⟨m.act.toNat, by have := hok.act; omega⟩
  obtain ⟨k, hk⟩ : ∃ k : Nat, m.time = (k : Int) := ⟨m.time.toNat, by have := hok.time; omega⟩
  have memF : ∀ x ∈ [m.cas, m.act, m.res, m.life, m.time], 0 ≤ x → x < (r.length : Int) := fun x hx h0 => hcol x (List.mem_append_left _ (List.mem_filter.2 ⟨hx, decide_eq_true h0⟩))
  have hil : i < r.length := by have := memF m.cas (by simp) hok.cas.1; omega
  have hjl : j < r.length := by have := memF m.act (by simp) hok.act.1; omega
  have hkl : k < r.length := by have := memF m.time (by simp) hok.time.1; omega
  have HRES := Lib.hid (memF m.res (by simp))
  have HLIF := Lib.hid (memF m.life (by simp))
  have HDC : Hid (∀ d ∈ m.data, d < (r.length : Int)) := Lib.hid fun d hd' => hcol d (List.mem_append_right _ hd')
  have HRR := Lib.hid hr
  have HHH := Lib.hid hh
  have HOK := Lib.hid hok
  have HRL := Lib.hid hrl
  have HHL := Lib.hid hhl
  have HND := Lib.hid hnd
  have HLN := Lib.hid hlen
  obtain ⟨Ar, cr, rfl, _, _, hr⟩ := hr.open_
  obtain ⟨Ah, ch, rfl, _, _, hh⟩ := hh.open_
  have hri : r[i]? = some r[i] := List.getElem?_eq_getElem hil
  have hrj : r[j]? = some r[j] := List.getElem?_eq_getElem hjl
  have hrk : r[k]? = some r[k] := List.getElem?_eq_getElem hkl
  obtain ⟨b0, o0, hA, hD0, hla, ca⟩ := hr.cellAt hri rfl
  obtain ⟨b1, o1, hA1, _, hlb, cb⟩ := hr.cellAt hrj rfl
  obtain ⟨b2, o2, hA2, _, hlt, ct⟩ := hr.cellAt hrk rfl
  subst hA
  injection hA1 with hA1
  injection hA1 with e1 e2 _
  subst e1 e2
  injection hA2 with hA2
  injection hA2 with e1 e2 _
  subst e1 e2
  have hka := cellAt_of hri
  have hkb := cellAt_of hrj
  have hkt := cellAt_of hrk
  have htl : (r[k]).length ≤ 1000000 := hrl _ (List.getElem_mem hkl)
  generalize r[i] = a at *
  generalize r[j] = b at *
  generalize r[k] = t at *
  obtain ⟨qa, hqa⟩ : ∃ qa, isNameB (bsOf a) = qa := ⟨_, rfl⟩
  obtain ⟨qb, hqb⟩ : ∃ qb, isNameB (bsOf b) = qb := ⟨_, rfl⟩
  have HIA : Hid (∀ W, Calls Tryz.prog 80 #[.string (bsOf a)] W fun e w' => e = .returned (.bool qa) ∧ W = w') := fun W => by have := isName_ref (bsOf a) W (by rw [bs_size]; exact hla); rwa [hqa] at this
  have HIB : Hid (∀ W, Calls Tryz.prog 80 #[.string (bsOf b)] W fun e w' => e = .returned (.bool qb) ∧ W = w') := fun W => by have := isName_ref (bsOf b) W (by rw [bs_size]; exact hlb); rwa [hqb] at this
  have HE : Hid (evE r hd m = if qa = false then (noEv, (i : Int), 8) else if qb = false then (noEv, (j : Int), 8) else evR r hd m) := by
    show _ = _
    unfold evE
    rw [hi, hj, hka, hkb, hqa, hqb]
  have HSA : Hid (qa = true → (bsOf a).size ≤ 40) := Lib.hid fun h => isName_le (hqa.trans h)
  have HSB : Hid (qb = true → (bsOf b).size ≤ 40) := Lib.hid fun h => isName_le (hqb.trans h)
  obtain ⟨pn, hpn⟩ : ∃ pn, natE t = pn := ⟨_, rfl⟩
  have HN : Hid (∀ W, Calls Tryz.prog 110 #[.string (bsOf t)] W fun e w' => e = .returned (.tuple #[.int .i64 pn.1, .int .i64 pn.2]) ∧ W = w') := Lib.hid fun W => by
    have := instant_ref (bsOf t) W (by rw [bs_size]; exact htl)
    rwa [show (bsOf t).data.toList = t from rfl, hpn] at this
  have HNF : Hid (0 ≤ pn.1 ∧ pn.1 ≤ 1099511627776) := by rw [← hpn]; exact natE_fit t
  have HTE : Hid (∀ res life, evT r hd m res life = if pn.2 = 0 then evEnd r m res life pn.1 (fldsD r hd [] (m.data.zip m.kinds)) else (noEv, (k : Int), pn.2)) := Lib.hid fun res life => by
    unfold evT
    rw [hk, hkt, hpn]
  have HEND : Hid (∀ res life n d, evEnd r m res life n d = if d.2.2 = 0 then (⟨bsOf a, bsOf b, bsOf res, life, n, sortS nlt d.1⟩, 0, 0) else (noEv, d.2.1, d.2.2)) := Lib.hid fun res life n d => by
    unfold evEnd
    rw [hi, hj, hka, hkb]
  have HD0 : Hid (b0 < w.heap.size) := hD0
  obtain ⟨dv, kv, rfl, hfm, hd', hk'⟩ := h
  have HMD := Lib.hid hd'
  have HMK := Lib.hid hk'
  obtain ⟨Ad, cd, rfl, _, _, hd'⟩ := hd'.open_
  obtain ⟨Ak, ck, rfl, _, _, hk'⟩ := hk'.open_
  unfold mpV
  rw [hi, hj, hk]
  obtain ⟨z, hz⟩ : ∃ z, (m.sep.toNat : Int) = z := ⟨_, rfl⟩
  rw [hz]
  obtain ⟨p, hp⟩ : ∃ p, evE r hd m = p := ⟨_, rfl⟩
  rw [hp] at HE ⊢
  generalize bsOf a = sa at *
  generalize bsOf b = sb at *
  generalize bsOf t = st at *
  obtain ⟨pt, pf⟩ := pn
  dsimp only at HN HNF HTE
  clear hfm hd' hk' hz hi hj hk hr hri hrj hrk hqa hqb hpn htl hla hlb hlt hD0 hrl hhl hnd hlen hh hka hkb hkt hcol memF hok hp
  -- the boxes
  have hb1 := bone w (.cells #[.int .i64 (i : Int), .int .i64 (j : Int), .int .i64 m.res, .int .i64 m.life, .int .i64 (k : Int), .slice Ad m.data.length cd, .slice Ak m.kinds.length ck, .int .u8 z] 33)
  have hB1 := Blk.new w 33 #[.int .i64 (i : Int), .int .i64 (j : Int), .int .i64 m.res, .int .i64 m.life, .int .i64 (k : Int), .slice Ad m.data.length cd, .slice Ak m.kinds.length ck, .int .u8 z]
  have hs1 : (w.alloc (.cells #[.int .i64 (i : Int), .int .i64 (j : Int), .int .i64 m.res, .int .i64 m.life, .int .i64 (k : Int), .slice Ad m.data.length cd, .slice Ak m.kinds.length ck, .int .u8 z] 33)).heap.size = w.heap.size + 1 := by simp
  obtain ⟨w1, hw1⟩ : ∃ w1, w.alloc (.cells #[.int .i64 (i : Int), .int .i64 (j : Int), .int .i64 m.res, .int .i64 m.life, .int .i64 (k : Int), .slice Ad m.data.length cd, .slice Ak m.kinds.length ck, .int .u8 z] 33) = w1 := ⟨_, rfl⟩
  rw [hw1] at hb1 hB1 hs1
  have hb2 := bone w1 (.cells ev0C 69)
  have hB2 := Blk.new w1 69 ev0C
  have hs2 : (w1.alloc (.cells ev0C 69)).heap.size = w.heap.size + 2 := by simp [hs1]
  rw [hs1] at hB2
  obtain ⟨w2, hw2⟩ : ∃ w2, w1.alloc (.cells ev0C 69) = w2 := ⟨_, rfl⟩
  rw [hw2] at hB2 hs2 hb2
  have HW : Hid ((w.alloc (.cells #[.int .i64 (i : Int), .int .i64 (j : Int), .int .i64 m.res, .int .i64 m.life, .int .i64 (k : Int), .slice Ad m.data.length cd, .slice Ak m.kinds.length ck, .int .u8 z] 33)).alloc (.cells ev0C 69) = w2) := by show _ = _; rw [hw1, hw2]
  have HM2 := Lib.hid (hB1.now hb2)
  have HR2 := Lib.hid hB2
  have HBW2 := Lib.hid (bthen hb1 hb2)
  have HS2 := Lib.hid hs2
  clear hb1 hB1 hs1 hw1 hb2 hB2 hs2 hw2
  go_enter Tryz.func60, Tryz.ntmps60
  go_upto_region 1 with fail
  rw [HW.out]
  clear HW
  have HBA := Lib.hid (bone w2 (.cells ev0C 69))
  obtain ⟨c0, c1, c2, c3, c4, c5, c6, c7⟩ := HM2.out.c8m
  obtain ⟨d0, d1, d2, d3, d4, d5, d6, d7⟩ := (HM2.out.now HBA.out).c8m
  have x0 := (HBW2.out.cell (p := ⟨b0, o0 + i, none⟩) HD0.out).trans ca
  have x1 := (HBW2.out.cell (p := ⟨b0, o0 + j, none⟩) HD0.out).trans cb
  have hbl : b0 < w2.heap.size := by have := HD0.out; have := HBW2.out.size; omega
  have y0 := (HBA.out.cell (p := ⟨b0, o0 + i, none⟩) hbl).trans x0
  have y1 := (HBA.out.cell (p := ⟨b0, o0 + j, none⟩) hbl).trans x1
  have ii0 : (0 : Int) ≤ (i : Int) := by omega
  have ii1 : (i : Int) < (r.length : Int) := by omega
  have jj0 : (0 : Int) ≤ (j : Int) := by omega
  have jj1 : (j : Int) < (r.length : Int) := by omega
  unfold ev0C at d0 d1 d2 d3 d4 d5 d6 d7 y0 y1
  clear hbl
  go_region
  have HB3 : Hid (Below w2.heap.size w2 (w2.alloc (.cells #[.string sa, .string sb, .string ⟨#[]⟩, .int .i64 5, .int .i64 0, .slice none 0 0] 69)).drew) := (bone w2 _).drew
  have HE3 : Hid (Blk (w2.alloc (.cells #[.string sa, .string sb, .string ⟨#[]⟩, .int .i64 5, .int .i64 0, .slice none 0 0] 69)).drew w2.heap.size 69 #[.string sa, .string sb, .string ⟨#[]⟩, .int .i64 5, .int .i64 0, .slice none 0 0]) := (Blk.new w2 _ _).drew
  obtain ⟨w3, hw3⟩ : ∃ w3, (w2.alloc (.cells #[.string sa, .string sb, .string ⟨#[]⟩, .int .i64 5, .int .i64 0, .slice none 0 0] 69)).drew = w3 := ⟨_, rfl⟩
  rw [hw3] at HB3 HE3 ⊢
  have HM3 := Lib.hid (HM2.out.now HB3.out)
  have HR3 := Lib.hid (HR2.out.now HB3.out)
  have HBW3 := Lib.hid (bthen HBW2.out HB3.out)
  obtain ⟨E, hE⟩ : ∃ E, w2.heap.size = E := ⟨_, rfl⟩
  rw [hE] at HE3 HS2 HB3 ⊢
  have HEW : Hid (w.heap.size + 1 < E) := by have := HS2.out; show _ < _; omega
  clear c0 c1 c2 c3 c4 c5 c6 c7 d0 d1 d2 d3 d4 d5 d6 d7 x0 x1 y0 y1 hw3 hE HBA HM2 HR2 HBW2 HS2 HB3
  have HMX : Hid (∀ W, Below E w3 W → Blk W w.heap.size 33 #[.int .i64 (i : Int), .int .i64 (j : Int), .int .i64 m.res, .int .i64 m.life, .int .i64 (k : Int), .slice Ad m.data.length cd, .slice Ak m.kinds.length ck, .int .u8 z]) := Lib.hid fun W hW => HM3.out.below hW (by have := HEW.out; omega)
  have HRX : Hid (∀ W, Below E w3 W → Blk W (w.heap.size + 1) 69 ev0C) := Lib.hid fun W hW => HR3.out.below hW HEW.out
  have HBX : Hid (∀ W, Below E w3 W → Below w.heap.size w W) := Lib.hid fun W hW => HBW3.out.trans (hW.mono (by have := HEW.out; omega))
  clear HM3 HR3 HBW3
  obtain ⟨c0, c1, c2, c3, c4, c5, c6, c7⟩ := (HMX.out w3 (Below.refl _ _)).c8m
  obtain ⟨e0, e1, e2, e3, e4, e5⟩ := HE3.out.c6
  obtain ⟨r0, r1, r2, r3, r4, r5⟩ := (HRX.out w3 (Below.refl _ _)).c6
  have f0 := (HRX.out w3 (Below.refl _ _)).frozen 0
  have f1 := (HRX.out w3 (Below.refl _ _)).frozen 1
  have f2 := (HRX.out w3 (Below.refl _ _)).frozen 2
  have f3 := (HRX.out w3 (Below.refl _ _)).frozen 3
  have f4 := (HRX.out w3 (Below.refl _ _)).frozen 4
  have f5 := (HRX.out w3 (Below.refl _ _)).frozen 5
  go_wp2_with fail
  (with_reducible refine (HIA.out _).mono ?_)
  rintro _ wq ⟨rfl, rfl⟩
  cases qa
  · have HPE : Hid (p = (noEv, (i : Int), 8)) := by show _ = _; rw [HE.out]; rfl
    have hcode : (8 : Int) ≠ 0 := by decide
    go_wp2_with fail
    go_region
    go_wp2_with fail
    have hz := (HRX.out w3 (Below.refl _ _)).put6 (.string sa) (.string sb) (.string ⟨#[]⟩) (.int .i64 5) (.int .i64 0) (.slice none 0 0)
    have hbz := below6 (HBX.out w3 (Below.refl _ _)) (show w.heap.size ≤ w.heap.size + 1 by omega) (.string sa) (.string sb) (.string ⟨#[]⟩) (.int .i64 5) (.int .i64 0) (.slice none 0 0)
    have hz := hz.drew
    have hbz := hbz.drew
    obtain ⟨wz, hwz⟩ : ∃ wz, (((((((w3.setCell ⟨w.heap.size + 1, 0, none⟩ (.string sa)).setCell ⟨w.heap.size + 1, 1, none⟩ (.string sb)).setCell ⟨w.heap.size + 1, 2, none⟩ (.string ⟨#[]⟩)).setCell ⟨w.heap.size + 1, 3, none⟩ (.int .i64 5)).setCell ⟨w.heap.size + 1, 4, none⟩ (.int .i64 0)).setCell ⟨w.heap.size + 1, 5, none⟩ (.slice none 0 0))).drew = wz := ⟨_, rfl⟩
    rw [hwz] at hz hbz ⊢
    clear hwz
    obtain ⟨q0, q1, q2, q3, q4, q5⟩ := hz.c6
    refine bodyPost_ret (v := .tuple #[.agg #[.string sa, .string sb, .string ⟨#[]⟩, .int .i64 5, .int .i64 0, .slice none 0 0], .int .i64 (i : Int), .int .i64 8]) (by simp [results, Tryz.results60, go_sem, q0, q1, q2, q3, q4, q5]) rfl ?_
    show RetEv _ _ _ _
    rw [HPE.out]
    exact ret_bad rfl hcode hbz
  go_wp2_with fail
  (with_reducible refine (HIB.out _).mono ?_)
  rintro _ wq ⟨rfl, rfl⟩
  cases qb
  · have HPE : Hid (p = (noEv, (j : Int), 8)) := by show _ = _; rw [HE.out]; rfl
    have hcode : (8 : Int) ≠ 0 := by decide
    go_wp2_with fail
    go_region
    go_wp2_with fail
    have hz := (HRX.out w3 (Below.refl _ _)).put6 (.string sa) (.string sb) (.string ⟨#[]⟩) (.int .i64 5) (.int .i64 0) (.slice none 0 0)
    have hbz := below6 (HBX.out w3 (Below.refl _ _)) (show w.heap.size ≤ w.heap.size + 1 by omega) (.string sa) (.string sb) (.string ⟨#[]⟩) (.int .i64 5) (.int .i64 0) (.slice none 0 0)
    have hz := hz.drew
    have hbz := hbz.drew
    obtain ⟨wz, hwz⟩ : ∃ wz, (((((((w3.setCell ⟨w.heap.size + 1, 0, none⟩ (.string sa)).setCell ⟨w.heap.size + 1, 1, none⟩ (.string sb)).setCell ⟨w.heap.size + 1, 2, none⟩ (.string ⟨#[]⟩)).setCell ⟨w.heap.size + 1, 3, none⟩ (.int .i64 5)).setCell ⟨w.heap.size + 1, 4, none⟩ (.int .i64 0)).setCell ⟨w.heap.size + 1, 5, none⟩ (.slice none 0 0))).drew = wz := ⟨_, rfl⟩
    rw [hwz] at hz hbz ⊢
    clear hwz
    obtain ⟨q0, q1, q2, q3, q4, q5⟩ := hz.c6
    refine bodyPost_ret (v := .tuple #[.agg #[.string sa, .string sb, .string ⟨#[]⟩, .int .i64 5, .int .i64 0, .slice none 0 0], .int .i64 (j : Int), .int .i64 8]) (by simp [results, Tryz.results60, go_sem, q0, q1, q2, q3, q4, q5]) rfl ?_
    show RetEv _ _ _ _
    rw [HPE.out]
    exact ret_bad rfl hcode hbz
  have HPR : Hid (p = evR r hd m) := by show _ = _; rw [HE.out]; rfl
  have HSA2 : Hid (sa.size ≤ 40) := Lib.hid (by first | exact HSA.out rfl | exact HSA.out trivial | exact HSA.out)
  have HSB2 : Hid (sb.size ≤ 40) := Lib.hid (by first | exact HSB.out rfl | exact HSB.out trivial | exact HSB.out)
  clear HE HIA HIB HSA HSB
  obtain ⟨qr, hqr⟩ : ∃ qr, decide (0 ≤ m.res) = qr := ⟨_, rfl⟩
  go_upto_if 43 with fail
  have HQR := Lib.hid hqr
  clear hqr
  go_cut [] from 44 to 61 (fun W => ∃ ρ : Bt, Hid (p = evL r hd m ρ) ∧ Hid (ρ.length ≤ 40) ∧ Hid (Blk W E 69 #[.string sa, .string sb, .string (bsOf ρ), .int .i64 5, .int .i64 0, .slice none 0 0]) ∧ Hid (Below E w3 W))
  case first =>
    cases qr with
    | false =>
      go_wp2_with fail
      go_meet
      refine ⟨[], Lib.hid ?_, Lib.hid (Nat.zero_le _), HE3, Lib.hid (Below.refl _ _)⟩
      rw [HPR.out]
      unfold evR
      rw [if_pos (by have := of_decide_eq_false HQR.out; omega)]
    | true =>
      obtain ⟨c, hc⟩ : ∃ c : Nat, m.res = (c : Int) := ⟨m.res.toNat, by have := of_decide_eq_true HQR.out; omega⟩
      have hcl : c < r.length := by have := HRES.out (of_decide_eq_true HQR.out); omega
      have hrc : r[c]? = some r[c] := List.getElem?_eq_getElem hcl
      obtain ⟨bx, ox, hA, _, hlx, cx⟩ := SlP.cellAt HRR.out hrc rfl
      injection hA with hA
      injection hA with e1' e2'
      subst e1' e2'
      have hkc := cellAt_of hrc
      have hxl : (r[c]).length ≤ maxLen := hlx
      generalize r[c] = x at *
      have cx3 := ((HBX.out w3 (Below.refl _ _)).cell (p := ⟨b0, o0 + c, none⟩) HD0.out).trans cx
      have HEX : Hid (evR r hd m = if x ≠ [] ∧ isNameB (bsOf x) = false then (noEv, (c : Int), 8) else evL r hd m x) := by
        show _ = _
        unfold evR
        rw [if_neg (by omega), hc, hkc]
      rw [hc] at c2
      have HCC := Lib.hid hc
      have ci0 : (0 : Int) ≤ (c : Int) := by omega
      have ci1 : (c : Int) < (r.length : Int) := by omega
      have g2 := HE3.out.frozen 2
      have HIX : Hid (∀ W, Calls Tryz.prog 80 #[.string (bsOf x)] W fun e w' => e = .returned (.bool (isNameB (bsOf x))) ∧ W = w') := fun W => isName_ref (bsOf x) W (by rw [bs_size]; exact hxl)
      have HLX : Hid (isNameB (bsOf x) = true → x.length ≤ 40) := Lib.hid fun h => by have := isName_le h; rwa [bs_size] at this
      clear hc hrc cx hlx hxl hkc
      have hE4 : Blk (w3.setCell ⟨E, 2, none⟩ (.string (bsOf x))) E 69 #[.string sa, .string sb, .string (bsOf x), .int .i64 5, .int .i64 0, .slice none 0 0] := HE3.out.set_ 2 (.string (bsOf x))
      have hB4 := (Below.refl E w3).setCell (p := ⟨E, 2, none⟩) (Nat.le_refl E) (.string (bsOf x))
      go_upto_region 8 with fail
      obtain ⟨w4, hw4⟩ : ∃ w4, w3.setCell ⟨E, 2, none⟩ (.string (bsOf x)) = w4 := ⟨_, rfl⟩
      rw [hw4] at hE4 hB4 ⊢
      clear hw4 cx3 g2 c0 c1 c2 c3 c4 c5 c6 c7 e0 e1 e2 e3 e4 e5 r0 r1 r2 r3 r4 r5 f0 f1 f2 f3 f4 f5
      have HE4 := Lib.hid hE4
      have HB4 := Lib.hid hB4
      clear hE4 hB4
      obtain ⟨c0, c1, c2, c3, c4, c5, c6, c7⟩ := (HMX.out w4 HB4.out).c8m
      obtain ⟨e0, e1, e2, e3, e4, e5⟩ := HE4.out.c6
      obtain ⟨r0, r1, r2, r3, r4, r5⟩ := (HRX.out w4 HB4.out).c6
      have f0 := (HRX.out w4 HB4.out).frozen 0
      have f1 := (HRX.out w4 HB4.out).frozen 1
      have f2 := (HRX.out w4 HB4.out).frozen 2
      have f3 := (HRX.out w4 HB4.out).frozen 3
      have f4 := (HRX.out w4 HB4.out).frozen 4
      have f5 := (HRX.out w4 HB4.out).frozen 5
      rw [HCC.out] at c2
      by_cases hx0 : x = []
      · subst hx0
        have s1 : (bsOf []).toList.isEmpty = true := by decide +kernel
        have s2 : (bsOf []).toList = [] := by decide +kernel
        go_wp2_with fail
        go_meet
        exact ⟨[], Lib.hid (by rw [HPR.out, HEX.out, if_neg (by simp)]), Lib.hid (Nat.zero_le _), HE4, HB4⟩
      · have s1 : (bsOf x).toList.isEmpty = false := by
          rw [Lib.toList_data]
          show x.isEmpty = false
          cases x with
          | nil => exact absurd rfl hx0
          | cons a l => rfl
        have s2 : ((bsOf x).toList == []) = false := by
          rw [Lib.toList_data]
          show (x == []) = false
          rw [beq_eq_false_iff_ne]; exact hx0
        have s3 : (bsOf x).toList ≠ [] := by
          rw [Lib.toList_data]; exact hx0
        have HX0 := Lib.hid hx0
        clear hx0
        obtain ⟨qx, hqx⟩ : ∃ qx, isNameB (bsOf x) = qx := ⟨_, rfl⟩
        rw [hqx] at HEX HIX HLX
        clear hqx
        go_wp2_with fail
        (with_reducible refine (HIX.out _).mono ?_)
        rintro _ wq ⟨rfl, rfl⟩
        cases qx
        · have HPE : Hid (p = (noEv, (c : Int), 8)) := by show _ = _; rw [HPR.out, HEX.out, if_pos ⟨HX0.out, rfl⟩]
          have hcode : (8 : Int) ≠ 0 := by decide
          go_wp2_with fail
          go_region
          go_wp2_with fail
          have hz := (HRX.out w4 HB4.out).put6 (.string sa) (.string sb) (.string (bsOf x)) (.int .i64 5) (.int .i64 0) (.slice none 0 0)
          have hbz := below6 (HBX.out w4 HB4.out) (show w.heap.size ≤ w.heap.size + 1 by omega) (.string sa) (.string sb) (.string (bsOf x)) (.int .i64 5) (.int .i64 0) (.slice none 0 0)
          have hz := hz.drew
          have hbz := hbz.drew
          obtain ⟨wz, hwz⟩ : ∃ wz, (((((((w4.setCell ⟨w.heap.size + 1, 0, none⟩ (.string sa)).setCell ⟨w.heap.size + 1, 1, none⟩ (.string sb)).setCell ⟨w.heap.size + 1, 2, none⟩ (.string (bsOf x))).setCell ⟨w.heap.size + 1, 3, none⟩ (.int .i64 5)).setCell ⟨w.heap.size + 1, 4, none⟩ (.int .i64 0)).setCell ⟨w.heap.size + 1, 5, none⟩ (.slice none 0 0))).drew = wz := ⟨_, rfl⟩
          rw [hwz] at hz hbz ⊢
          clear hwz
          obtain ⟨q0, q1, q2, q3, q4, q5⟩ := hz.c6
          refine bodyPost_ret (v := .tuple #[.agg #[.string sa, .string sb, .string (bsOf x), .int .i64 5, .int .i64 0, .slice none 0 0], .int .i64 (c : Int), .int .i64 8]) (by simp [results, Tryz.results60, go_sem, q0, q1, q2, q3, q4, q5]) rfl ?_
          show RetEv _ _ _ _
          rw [HPE.out]
          exact ret_bad rfl hcode hbz
        · go_wp2_with fail
          go_meet
          exact ⟨x, Lib.hid (by rw [HPR.out, HEX.out, if_neg (by simp)]), Lib.hid (HLX.out (by simp)), HE4, HB4⟩
  case rest =>
  obtain ⟨ρ, HPL, HRO, HEc, HBc⟩ := hcut
  obtain ⟨w4, hw4⟩ : ∃ w4, wc = w4 := ⟨_, rfl⟩
  rw [hw4] at HEc HBc ⊢
  clear hw4 c0 c1 c2 c3 c4 c5 c6 c7 e0 e1 e2 e3 e4 e5 r0 r1 r2 r3 r4 r5 f0 f1 f2 f3 f4 f5 HPR HRES HQR HE3
  obtain ⟨c0, c1, c2, c3, c4, c5, c6, c7⟩ := (HMX.out w4 HBc.out).c8m
  obtain ⟨e0, e1, e2, e3, e4, e5⟩ := HEc.out.c6
  obtain ⟨r0, r1, r2, r3, r4, r5⟩ := (HRX.out w4 HBc.out).c6
  have f0 := (HRX.out w4 HBc.out).frozen 0
  have f1 := (HRX.out w4 HBc.out).frozen 1
  have f2 := (HRX.out w4 HBc.out).frozen 2
  have f3 := (HRX.out w4 HBc.out).frozen 3
  have f4 := (HRX.out w4 HBc.out).frozen 4
  have f5 := (HRX.out w4 HBc.out).frozen 5
  obtain ⟨ql, hql⟩ : ∃ ql, decide (0 ≤ m.life) = ql := ⟨_, rfl⟩
  go_upto_if 64 with fail
  have HQL := Lib.hid hql
  clear hql
  go_cut [] from 65 to 77 (fun W => ∃ L : Int, Hid (p = evT r hd m ρ L) ∧ Hid (1 ≤ L ∧ L ≤ 6) ∧ Hid (Blk W E 69 #[.string sa, .string sb, .string (bsOf ρ), .int .i64 L, .int .i64 0, .slice none 0 0]) ∧ Hid (Below E w3 W))
  case first =>
    cases ql with
    | false =>
      go_wp2_with fail
      go_meet
      refine ⟨5, Lib.hid ?_, Lib.hid (by omega), HEc, HBc⟩
      rw [HPL.out]
      unfold evL
      rw [if_pos (by have := of_decide_eq_false HQL.out; omega)]
    | true =>
      obtain ⟨c, hc⟩ : ∃ c : Nat, m.life = (c : Int) := ⟨m.life.toNat, by have := of_decide_eq_true HQL.out; omega⟩
      have hcl : c < r.length := by have := HLIF.out (of_decide_eq_true HQL.out); omega
      have hrc : r[c]? = some r[c] := List.getElem?_eq_getElem hcl
      obtain ⟨bx, ox, hA, _, hlx, cx⟩ := SlP.cellAt HRR.out hrc rfl
      injection hA with hA
      injection hA with e1' e2'
      subst e1' e2'
      have hkc := cellAt_of hrc
      generalize r[c] = x at *
      have cx4 := ((HBX.out w4 HBc.out).cell (p := ⟨b0, o0 + c, none⟩) HD0.out).trans cx
      obtain ⟨L, hL⟩ : ∃ L, lifeI x + 1 = L := ⟨_, rfl⟩
      have HLI : Hid (0 ≤ L ∧ L ≤ 6) := Lib.hid (by have := lifeI_lt x; omega)
      have HEX : Hid (evL r hd m ρ = if L = 0 then (noEv, (c : Int), 20) else evT r hd m ρ L) := by
        show _ = _
        unfold evL
        rw [if_neg (by omega), hc, hkc]
        have := lifeI_lt x
        by_cases h0 : L = 0
        · rw [if_pos h0, if_pos (by omega)]
        · rw [if_neg h0, if_neg (by omega), ← hL, Int.add_comm]
      have HLF : Hid (∀ W, Calls Tryz.prog 109 #[.string (bsOf x)] W fun e w' => e = .returned (.int .i64 L) ∧ W = w') := Lib.hid fun W => by have := life_ref x W; rwa [hL] at this
      have HCC := Lib.hid hc
      rw [hc] at c3
      have ci0 : (0 : Int) ≤ (c : Int) := by omega
      have ci1 : (c : Int) < (r.length : Int) := by omega
      have g3 := HEc.out.frozen 3
      clear hc hrc cx hlx hkc hL
      go_wp2_with fail
      (with_reducible refine (HLF.out _).mono ?_)
      rintro _ wq ⟨rfl, rfl⟩
      have hE6 := HEc.out.set_ 3 (.int .i64 L)
      have hB6 := HBc.out.setCell (p := ⟨E, 3, none⟩) (Nat.le_refl E) (.int .i64 L)
      go_upto_region 12 with fail
      obtain ⟨w5, hw5⟩ : ∃ w5, w4.setCell ⟨E, 3, none⟩ (.int .i64 L) = w5 := ⟨_, rfl⟩
      rw [hw5] at hE6 hB6 ⊢
      have HE5 : Hid (Blk w5 E 69 #[.string sa, .string sb, .string (bsOf ρ), .int .i64 L, .int .i64 0, .slice none 0 0]) := Lib.hid hE6
      have HB5 := Lib.hid hB6
      clear hw5 hE6 hB6 g3 cx4 c0 c1 c2 c3 c4 c5 c6 c7 e0 e1 e2 e3 e4 e5 r0 r1 r2 r3 r4 r5 f0 f1 f2 f3 f4 f5
      obtain ⟨c0, c1, c2, c3, c4, c5, c6, c7⟩ := (HMX.out w5 HB5.out).c8m
      obtain ⟨e0, e1, e2, e3, e4, e5⟩ := HE5.out.c6
      obtain ⟨r0, r1, r2, r3, r4, r5⟩ := (HRX.out w5 HB5.out).c6
      have f0 := (HRX.out w5 HB5.out).frozen 0
      have f1 := (HRX.out w5 HB5.out).frozen 1
      have f2 := (HRX.out w5 HB5.out).frozen 2
      have f3 := (HRX.out w5 HB5.out).frozen 3
      have f4 := (HRX.out w5 HB5.out).frozen 4
      have f5 := (HRX.out w5 HB5.out).frozen 5
      rw [HCC.out] at c3
      by_cases hq0 : L = 0
      · have HPE : Hid (p = (noEv, (c : Int), 20)) := by show _ = _; rw [HPL.out, HEX.out, if_pos hq0]
        have hcode : (20 : Int) ≠ 0 := by decide
        have b1 : (L == 0) = true := by simpa using hq0
        clear hq0
        go_wp2_with fail
        go_region
        go_wp2_with fail
        have hz := (HRX.out w5 HB5.out).put6 (.string sa) (.string sb) (.string (bsOf ρ)) (.int .i64 L) (.int .i64 0) (.slice none 0 0)
        have hbz := below6 (HBX.out w5 HB5.out) (show w.heap.size ≤ w.heap.size + 1 by omega) (.string sa) (.string sb) (.string (bsOf ρ)) (.int .i64 L) (.int .i64 0) (.slice none 0 0)
        have hz := hz.drew
        have hbz := hbz.drew
        obtain ⟨wz, hwz⟩ : ∃ wz, (((((((w5.setCell ⟨w.heap.size + 1, 0, none⟩ (.string sa)).setCell ⟨w.heap.size + 1, 1, none⟩ (.string sb)).setCell ⟨w.heap.size + 1, 2, none⟩ (.string (bsOf ρ))).setCell ⟨w.heap.size + 1, 3, none⟩ (.int .i64 L)).setCell ⟨w.heap.size + 1, 4, none⟩ (.int .i64 0)).setCell ⟨w.heap.size + 1, 5, none⟩ (.slice none 0 0))).drew = wz := ⟨_, rfl⟩
        rw [hwz] at hz hbz ⊢
        clear hwz
        obtain ⟨q0, q1, q2, q3, q4, q5⟩ := hz.c6
        refine bodyPost_ret (v := .tuple #[.agg #[.string sa, .string sb, .string (bsOf ρ), .int .i64 L, .int .i64 0, .slice none 0 0], .int .i64 (c : Int), .int .i64 20]) (by simp [results, Tryz.results60, go_sem, q0, q1, q2, q3, q4, q5]) rfl ?_
        show RetEv _ _ _ _
        rw [HPE.out]
        exact ret_bad rfl hcode hbz
      · have HPL2 : Hid (p = evT r hd m ρ L) := Lib.hid (by rw [HPL.out, HEX.out, if_neg hq0])
        have b1 : (L == 0) = false := by simpa using hq0
        have HLL : Hid (1 ≤ L ∧ L ≤ 6) := Lib.hid (by have := HLI.out; omega)
        clear hq0
        go_wp2_with fail
        go_meet
        exact ⟨L, HPL2, HLL, HE5, HB5⟩
  case rest =>
  obtain ⟨L, HPT, HLL, HEd, HBd⟩ := hcut
  obtain ⟨w6, hw6⟩ : ∃ w6, wc = w6 := ⟨_, rfl⟩
  rw [hw6] at HEd HBd ⊢
  clear hw6 c0 c1 c2 c3 c4 c5 c6 c7 e0 e1 e2 e3 e4 e5 r0 r1 r2 r3 r4 r5 f0 f1 f2 f3 f4 f5 HPL HLIF HQL HEc HBc
  have HPT2 : Hid (p = if pf = 0 then evEnd r m ρ L pt (fldsD r hd [] (m.data.zip m.kinds)) else (noEv, (k : Int), pf)) := by show _ = _; rw [HPT.out, HTE.out]
  clear HPT HTE
  obtain ⟨c0, c1, c2, c3, c4, c5, c6, c7⟩ := (HMX.out w6 HBd.out).c8m
  obtain ⟨e0, e1, e2, e3, e4, e5⟩ := HEd.out.c6
  obtain ⟨r0, r1, r2, r3, r4, r5⟩ := (HRX.out w6 HBd.out).c6
  have f0 := (HRX.out w6 HBd.out).frozen 0
  have f1 := (HRX.out w6 HBd.out).frozen 1
  have f2 := (HRX.out w6 HBd.out).frozen 2
  have f3 := (HRX.out w6 HBd.out).frozen 3
  have f4 := (HRX.out w6 HBd.out).frozen 4
  have f5 := (HRX.out w6 HBd.out).frozen 5
  have xt := ((HBX.out w6 HBd.out).cell (p := ⟨b0, o0 + k, none⟩) HD0.out).trans ct
  have kk0 : (0 : Int) ≤ (k : Int) := by omega
  have kk1 : (k : Int) < (r.length : Int) := by omega
  have HNW := Lib.hid (HN.out w6)
  go_wp2_with fail
  (with_reducible refine HNW.out.mono ?_)
  rintro _ w7 ⟨rfl, hw7⟩
  subst hw7
  have HE7 := HEd
  have HB7 : Hid (Below E w3 w6) := HBd
  clear HNW HN xt c0 c1 c2 c3 c4 c5 c6 c7 e0 e1 e2 e3 e4 e5 r0 r1 r2 r3 r4 r5 f0 f1 f2 f3 f4 f5
  obtain ⟨c0, c1, c2, c3, c4, c5, c6, c7⟩ := (HMX.out w6 HB7.out).c8m
  obtain ⟨e0, e1, e2, e3, e4, e5⟩ := HE7.out.c6
  obtain ⟨r0, r1, r2, r3, r4, r5⟩ := (HRX.out w6 HB7.out).c6
  have f0 := (HRX.out w6 HB7.out).frozen 0
  have f1 := (HRX.out w6 HB7.out).frozen 1
  have f2 := (HRX.out w6 HB7.out).frozen 2
  have f3 := (HRX.out w6 HB7.out).frozen 3
  have f4 := (HRX.out w6 HB7.out).frozen 4
  have f5 := (HRX.out w6 HB7.out).frozen 5
  have g4 := HE7.out.frozen 4
  by_cases hpf : pf = 0
  rotate_left
  · have HPE : Hid (p = (noEv, (k : Int), pf)) := by show _ = _; rw [HPT2.out, if_neg hpf]
    have b1 : (pf != 0) = true := by simpa using hpf
    have hcode : pf ≠ 0 := hpf
    clear hpf
    have HCO := Lib.hid hcode
    clear hcode
    go_wp2_with fail
    go_region
    go_wp2_with fail
    have hcode := HCO.out
    have hz := (HRX.out w6 HB7.out).put6 (.string sa) (.string sb) (.string (bsOf ρ)) (.int .i64 L) (.int .i64 0) (.slice none 0 0)
    have hbz := below6 (HBX.out w6 HB7.out) (show w.heap.size ≤ w.heap.size + 1 by omega) (.string sa) (.string sb) (.string (bsOf ρ)) (.int .i64 L) (.int .i64 0) (.slice none 0 0)
    have hz := hz.drew
    have hbz := hbz.drew
    obtain ⟨wz, hwz⟩ : ∃ wz, (((((((w6.setCell ⟨w.heap.size + 1, 0, none⟩ (.string sa)).setCell ⟨w.heap.size + 1, 1, none⟩ (.string sb)).setCell ⟨w.heap.size + 1, 2, none⟩ (.string (bsOf ρ))).setCell ⟨w.heap.size + 1, 3, none⟩ (.int .i64 L)).setCell ⟨w.heap.size + 1, 4, none⟩ (.int .i64 0)).setCell ⟨w.heap.size + 1, 5, none⟩ (.slice none 0 0))).drew = wz := ⟨_, rfl⟩
    rw [hwz] at hz hbz ⊢
    clear hwz
    obtain ⟨q0, q1, q2, q3, q4, q5⟩ := hz.c6
    refine bodyPost_ret (v := .tuple #[.agg #[.string sa, .string sb, .string (bsOf ρ), .int .i64 L, .int .i64 0, .slice none 0 0], .int .i64 (k : Int), .int .i64 pf]) (by simp [results, Tryz.results60, go_sem, q0, q1, q2, q3, q4, q5]) rfl ?_
    show RetEv _ _ _ _
    rw [HPE.out]
    exact ret_bad rfl hcode hbz
  have HPQ : Hid (p = evEnd r m ρ L pt (fldsD r hd [] (m.data.zip m.kinds))) := by show _ = _; rw [HPT2.out, if_pos hpf]
  have b1 : (pf != 0) = false := by rw [hpf]; rfl
  clear hpf HPT2
  have hE8 := HE7.out.set_ 4 (.int .i64 pt)
  have hB8 := HB7.out.setCell (p := ⟨E, 4, none⟩) (Nat.le_refl E) (.int .i64 pt)
  go_upto_region 18 with fail
  obtain ⟨w8, hw8⟩ : ∃ w8, w6.setCell ⟨E, 4, none⟩ (.int .i64 pt) = w8 := ⟨_, rfl⟩
  rw [hw8] at hE8 hB8 ⊢
  have HE8 : Hid (Blk w8 E 69 #[.string sa, .string sb, .string (bsOf ρ), .int .i64 L, .int .i64 pt, .slice none 0 0]) := Lib.hid hE8
  have HB8 := Lib.hid hB8
  clear hw8 hE8 hB8 g4 c0 c1 c2 c3 c4 c5 c6 c7 e0 e1 e2 e3 e4 e5 r0 r1 r2 r3 r4 r5 f0 f1 f2 f3 f4 f5 HE7 HB7 HEd HBd
  obtain ⟨c0, c1, c2, c3, c4, c5, c6, c7⟩ := (HMX.out w8 HB8.out).c8m
  obtain ⟨e0, e1, e2, e3, e4, e5⟩ := HE8.out.c6
  obtain ⟨r0, r1, r2, r3, r4, r5⟩ := (HRX.out w8 HB8.out).c6
  have f0 := (HRX.out w8 HB8.out).frozen 0
  have f1 := (HRX.out w8 HB8.out).frozen 1
  have f2 := (HRX.out w8 HB8.out).frozen 2
  have f3 := (HRX.out w8 HB8.out).frozen 3
  have f4 := (HRX.out w8 HB8.out).frozen 4
  have f5 := (HRX.out w8 HB8.out).frozen 5
  go_wp2_with fail
  clear c0 c1 c2 c3 c4 c5 c6 c7 e0 e1 e2 e3 e4 e5 r0 r1 r2 r3 r4 r5 f0 f1 f2 f3 f4 f5
  go_loopw [12] (fun iv wr => ∃ (i : Nat) (acc : List Fld) (dv : Value), iv = .int .i64 (i : Int) ∧ i ≤ m.data.length ∧ Hid (Blk wr E 69 #[.string sa, .string sb, .string (bsOf ρ), .int .i64 L, .int .i64 pt, dv]) ∧ Hid (OwnFl wr w8.heap.size dv (sortS nlt acc)) ∧ Hid (FldsOk hd (m.data.take i) acc) ∧ Hid (p = evEnd r m ρ L pt (fldsD r hd acc ((m.data.zip m.kinds).drop i))) ∧ Hid (Below E w3 wr) ∧ Hid (w8.heap.size ≤ wr.heap.size)) (fun iv _ => m.data.length - (intOf iv).toNat)
  case atStart => exact ⟨0, [], _, rfl, Nat.zero_le _, HE8, Lib.hid OwnW.nil, Lib.hid (by rw [List.take_zero]; exact FldsOk.nil hd), HPQ, HB8, Lib.hid (Nat.le_refl _)⟩
  case round =>
    obtain ⟨q, acc, dv, rfl, hq, HEr, HOr, HFr, HPr, HBr, HSr⟩ := hrel
    obtain ⟨wo, hwo⟩ : ∃ wo, wr = wo := ⟨_, rfl⟩
    rw [hwo] at HEr HOr HBr HSr ⊢
    clear hwo HPQ
    have HEL : Hid (E < w8.heap.size) := HE8.out.lt
    have HBo := Lib.hid (HBX.out wo HBr.out)
    haveI : Inhabited Fld := ⟨⟨⟨#[]⟩, noV⟩⟩
    obtain ⟨SS, hSS⟩ : ∃ SS, sortS nlt acc = SS := ⟨_, rfl⟩
    have HSS := Lib.hid hSS
    rw [hSS] at HOr
    have HSP : Hid (SS.Perm acc) := Lib.hid (by rw [← hSS]; exact perm_sortS acc)
    have HSC : Hid (AscM nlt SS) := Lib.hid (by rw [← hSS]; exact asc_sortS swo_nlt acc)
    clear hSS
    have HFO : Hid ((SS = [] ∧ dv = .slice none 0 0) ∨ ∃ g c, dv = .slice (some ⟨g, 0, none⟩) SS.length c) := Lib.hid (by
      rcases HOr.out.2 with ⟨e, h0⟩ | ⟨g, cap, cur, e, _⟩
      · exact .inl ⟨List.eq_nil_of_length_eq_zero h0, e⟩
      · exact .inr ⟨g, cap, e⟩)
    obtain ⟨Av, cv, hdv⟩ := HOr.out.open_
    subst hdv
    have HAL : Hid (acc.length ≤ 8) := Lib.hid (by have := HFr.out.len; rw [List.length_take] at this; have := HOK.out.len; omega)
    have HSL : Hid (SS.length ≤ 1000) := Lib.hid (by rw [HSP.out.length_eq]; have := HAL.out; omega)
    have HFF : Hid (∀ f ∈ SS, FitFl f) := Lib.hid fun f hf => HFr.out.fit HHL.out f (HSP.out.mem_iff.1 hf)
    by_cases hlt : q < m.data.length
    · obtain ⟨db, do_, dx, rfl, hDd, hdx, hdf, cdx⟩ := SlI.at_ (SlI.now HMD.out HBo.out) hlt
      obtain ⟨kb, ko, kq, rfl, hDk, hkx, hkf, ckq⟩ := SlI.at_ (SlI.now HMK.out HBo.out) (k := q) (by have := HOK.out.kinds; omega)
      obtain ⟨d, rfl⟩ : ∃ d : Nat, dx = (d : Int) := ⟨dx.toNat, by have := HOK.out.data dx (List.mem_of_getElem? hdx); omega⟩
      have hdl : d < r.length := by have := HDC.out _ (List.mem_of_getElem? hdx); omega
      have HZ : Hid ((m.data.zip m.kinds).drop q = ((d : Int), kq) :: (m.data.zip m.kinds).drop (q + 1)) := Lib.hid (zip_at hdx hkx)
      have HTS : Hid (m.data.take (q + 1) = m.data.take q ++ [(d : Int)]) := Lib.hid (take_snocI hdx)
      have hrd : r[d]? = some r[d] := List.getElem?_eq_getElem hdl
      obtain ⟨bx, ox, hA, _, hlx, cx⟩ := SlP.cellAt HRR.out hrd rfl
      injection hA with hA
      injection hA with e1' e2'
      subst e1' e2'
      have hkc := cellAt_of hrd
      have hxl : (r[d]).length ≤ 1000000 := HRL.out _ (List.getElem_mem hdl)
      generalize r[d] = x at *
      have cx := (HBo.out.cell (p := ⟨b0, o0 + d, none⟩) HD0.out).trans cx
      obtain ⟨dz, hdz⟩ : ∃ dz, datE (bsOf x) kq = dz := ⟨_, rfl⟩
      have HDE : Hid (fldsD r hd acc ((m.data.zip m.kinds).drop q) = if x = [] then fldsD r hd acc ((m.data.zip m.kinds).drop (q + 1)) else if dz.2 = 0 then fldsD r hd (acc ++ [⟨bsOf (cellAt hd (d : Int)), dz.1⟩]) ((m.data.zip m.kinds).drop (q + 1)) else (acc, (d : Int), dz.2)) := by
        show _ = _
        rw [HZ.out]
        show (if cellAt r (d : Int) = [] then _ else _) = _
        rw [hkc, hdz]
      have HDV : Hid (dz.2 = 0 → validV dz.1 = true) := Lib.hid fun h => by rw [← hdz]; exact dat_valid (by rw [hdz]; exact h)
      have HDK : Hid (dz.2 = 0 ∨ dz.2 = 11) := Lib.hid (by rw [← hdz]; exact dat_code _ _)
      have HDAT : Hid (∀ W, Calls Tryz.prog 111 #[.string (bsOf x), .int .i64 kq] W fun e w' => ∃ k1 n1 s1, e = .returned (.tuple #[.agg #[.int .i64 k1, .int .i64 n1, .string s1], .bool (decide (dz.2 = 0))]) ∧ (dz.2 = 0 → (⟨k1, n1, s1⟩ : Val) = dz.1) ∧ Below W.heap.size W w') := Lib.hid fun W => by
        have := datum_ref (bsOf x) kq W (by rw [bs_size]; exact hxl) hkf
        rw [hdz] at this
        refine this.mono ?_
        rintro e w' ⟨⟨k1, n1, s1⟩, h1, h2, h3⟩
        exact ⟨k1, n1, s1, h1, h2, h3⟩
      have hhl : d < hd.length := by rw [HLN.out]; exact hdl
      have hhd : hd[d]? = some hd[d] := List.getElem?_eq_getElem hhl
      obtain ⟨hb, ho, hA2, hDh, hly, cy⟩ := SlP.cellAt (SlP.now HHH.out HBo.out) hhd rfl
      have HAH : Hid (Ah = some ⟨hb, ho, none⟩) := Lib.hid hA2
      clear hA2
      have hkh := cellAt_of hhd
      have hyl : (hd[d]).length ≤ maxLen := HHL.out _ (List.getElem_mem hhl)
      generalize hd[d] = y at *
      have HHY := Lib.hid hkh
      obtain ⟨v, z⟩ := dz
      dsimp only at HDE HDV HDAT HDK
      have HYM := Lib.hid hyl
      have di0 : (0 : Int) ≤ (d : Int) := by omega
      have di1 : (d : Int) < (r.length : Int) := by omega
      have ki0 : (0 : Int) ≤ (q : Int) := by omega
      have ki1 : (q : Int) < (m.kinds.length : Int) := by have := HOK.out.kinds; omega
      have q1 : (q : Int) < (m.data.length : Int) := by omega
      have HD1 := Lib.hid hdl
      clear hdx hkx hdf hkf hrd hlx hxl hkc hdz hkh hhd hly hdl hyl
      obtain ⟨c0, c1, c2, c3, c4, c5, c6, c7⟩ := (HMX.out wo HBr.out).c8m
      obtain ⟨e0, e1, e2, e3, e4, e5⟩ := HEr.out.c6
      obtain ⟨r0, r1, r2, r3, r4, r5⟩ := (HRX.out wo HBr.out).c6
      have f0 := (HRX.out wo HBr.out).frozen 0
      have f1 := (HRX.out wo HBr.out).frozen 1
      have f2 := (HRX.out wo HBr.out).frozen 2
      have f3 := (HRX.out wo HBr.out).frozen 3
      have f4 := (HRX.out wo HBr.out).frozen 4
      have f5 := (HRX.out wo HBr.out).frozen 5
      by_cases hx0 : x = []
      · have HNX : Hid (p = evEnd r m ρ L pt (fldsD r hd acc ((m.data.zip m.kinds).drop (q + 1)))) := by show _ = _; rw [HPr.out, HDE.out, if_pos hx0]
        have HFX : Hid (FldsOk hd (m.data.take (q + 1)) acc) := Lib.hid (by rw [HTS.out]; exact HFr.out.skip _)
        have HOR2 : Hid (OwnFl wo w8.heap.size (.slice Av SS.length cv) (sortS nlt acc)) := Lib.hid (by rw [HSS.out]; exact HOr.out)
        subst hx0
        have s1 : (bsOf []).toList.isEmpty = true := by decide +kernel
        have s2 : (bsOf []).toList = [] := by decide +kernel
        go_wp2_with fail
        go_roundw
        case rel => exact ⟨q + 1, acc, _, by go_num, by omega, HEr, HOR2, HFX, HNX, HBr, HSr⟩
        case measure => simp [intOf]; omega
      have s1 : (bsOf x).toList.isEmpty = false := by
        rw [Lib.toList_data]
        show x.isEmpty = false
        cases x with
        | nil => exact absurd rfl hx0
        | cons a l => rfl
      have s2 : ((bsOf x).toList == []) = false := by
        rw [Lib.toList_data]
        show (x == []) = false
        rw [beq_eq_false_iff_ne]; exact hx0
      have s3 : (bsOf x).toList ≠ [] := by
        rw [Lib.toList_data]; exact hx0
      have HDN : Hid (p = evEnd r m ρ L pt (if z = 0 then fldsD r hd (acc ++ [⟨bsOf (cellAt hd (d : Int)), v⟩]) ((m.data.zip m.kinds).drop (q + 1)) else (acc, (d : Int), z))) := by show _ = _; rw [HPr.out, HDE.out, if_neg hx0]
      clear hx0 HDE HPr
      obtain ⟨qz, hqz⟩ : ∃ qz, decide (z = 0) = qz := ⟨_, rfl⟩
      rw [hqz] at HDAT
      have HQZ := Lib.hid hqz
      clear hqz
      go_wp2_with fail
      (with_reducible refine (HDAT.out _).mono ?_)
      rintro _ w9 ⟨k1, n1, s1', rfl, hv1, hb9⟩
      have HV1 := Lib.hid hv1
      have hE9 := HEr.out.now hb9
      have hO9 : OwnFl w9 w8.heap.size (.slice Av SS.length cv) SS := OwnW.now HOr.out hb9
      have hbB := bone w9 (.cells #[.int .i64 k1, .int .i64 n1, .string s1'] 121)
      have hBB := Blk.new w9 121 #[.int .i64 k1, .int .i64 n1, .string s1']
      clear hv1 c0 c1 c2 c3 c4 c5 c6 c7 e0 e1 e2 e3 e4 e5 r0 r1 r2 r3 r4 r5 f0 f1 f2 f3 f4 f5 cx cy cdx ckq s1 s2 s3
      go_upto_region 24 with fail
      obtain ⟨w5, hw5⟩ : ∃ w5, w9.alloc (.cells #[.int .i64 k1, .int .i64 n1, .string s1'] 121) = w5 := ⟨_, rfl⟩
      rw [hw5] at hbB hBB ⊢
      obtain ⟨T, hT⟩ : ∃ T, w9.heap.size = T := ⟨_, rfl⟩
      have hb5 : Below wo.heap.size wo w5 := bthen hb9 hbB
      rw [hT] at hBB ⊢
      have HT := Lib.hid hBB
      have HE5 := Lib.hid (HEr.out.now hb5)
      have HO5 : Hid (OwnFl w5 w8.heap.size (.slice Av SS.length cv) SS) := Lib.hid (OwnW.now HOr.out hb5)
      have HB5 : Hid (Below E w3 w5) := Lib.hid (HBr.out.trans (hb5.mono (by have := HEr.out.lt; omega)))
      have HS5 : Hid (w8.heap.size ≤ w5.heap.size) := Lib.hid (Nat.le_trans HSr.out hb5.size)
      have HBo5 := Lib.hid (HBX.out w5 HB5.out)
      have HWO : Hid (wo.heap.size ≤ w5.heap.size) := Lib.hid hb5.size
      clear hw5 hT hb5 hb9 hbB hBB HDAT HEr HOr HBr HSr hE9 hO9
      obtain ⟨db', do', dx', hAd, _, hdx', _, cdx⟩ := SlI.at_ (SlI.now HMD.out HBo5.out) hlt
      obtain ⟨c0, c1, c2, c3, c4, c5, c6, c7⟩ := (HMX.out w5 HB5.out).c8m
      obtain ⟨e0, e1, e2, e3, e4, e5⟩ := HE5.out.c6
      obtain ⟨r0, r1, r2, r3, r4, r5⟩ := (HRX.out w5 HB5.out).c6
      have f0 := (HRX.out w5 HB5.out).frozen 0
      have f1 := (HRX.out w5 HB5.out).frozen 1
      have f2 := (HRX.out w5 HB5.out).frozen 2
      have f3 := (HRX.out w5 HB5.out).frozen 3
      have f4 := (HRX.out w5 HB5.out).frozen 4
      have f5 := (HRX.out w5 HB5.out).frozen 5
      have cdx : w5.cell? ⟨db, do_ + q, none⟩ = some (.int .i64 (d : Int)) := by
        injection hAd with hAd
        injection hAd with e1 e2 _
        rw [← e1, ← e2] at cdx
        have h9 := zip_at hdx' (List.getElem?_eq_getElem (l := m.kinds) (i := q) (by have := HOK.out.kinds; omega))
        rw [HZ.out] at h9
        injection h9 with h9 _
        injection h9 with h9 _
        rw [← h9] at cdx
        exact cdx
      clear hAd hdx'
      cases qz with
      | false =>
        have hz0 : z ≠ 0 := of_decide_eq_false HQZ.out
        have hz1 : z = 11 := HDK.out.resolve_left hz0
        have HPE : Hid (p = (noEv, (d : Int), 11)) := by show _ = _; rw [HDN.out, if_neg hz0, HEND.out, if_neg hz0, hz1]
        have hcode : (11 : Int) ≠ 0 := by decide
        clear hz0 hz1
        have hdn : ¬ db = w.heap.size + 1 := by
          obtain ⟨_, _, _, hA9, hD9, _⟩ := SlI.at_ HMD.out hlt
          injection hA9 with hA9
          injection hA9 with e1 e2 _
          subst e1 e2
          have hD9 : db < w.heap.size := hD9
          omega
        go_wp2_with fail
        go_region
        go_wp2_with fail
        have hz := (HRX.out w5 HB5.out).put6 (.string sa) (.string sb) (.string (bsOf ρ)) (.int .i64 L) (.int .i64 pt) (.slice Av SS.length cv)
        have hbz := below6 (HBX.out w5 HB5.out) (show w.heap.size ≤ w.heap.size + 1 by omega) (.string sa) (.string sb) (.string (bsOf ρ)) (.int .i64 L) (.int .i64 pt) (.slice Av SS.length cv)
        have hz := hz.drew
        have hbz := hbz.drew
        obtain ⟨wz, hwz⟩ : ∃ wz, (((((((w5.setCell ⟨w.heap.size + 1, 0, none⟩ (.string sa)).setCell ⟨w.heap.size + 1, 1, none⟩ (.string sb)).setCell ⟨w.heap.size + 1, 2, none⟩ (.string (bsOf ρ))).setCell ⟨w.heap.size + 1, 3, none⟩ (.int .i64 L)).setCell ⟨w.heap.size + 1, 4, none⟩ (.int .i64 pt)).setCell ⟨w.heap.size + 1, 5, none⟩ (.slice Av SS.length cv))).drew = wz := ⟨_, rfl⟩
        rw [hwz] at hz hbz ⊢
        clear hwz
        obtain ⟨q0, q1, q2, q3, q4, q5⟩ := hz.c6
        refine bodyPost_ret (v := .tuple #[.agg #[.string sa, .string sb, .string (bsOf ρ), .int .i64 L, .int .i64 pt, .slice Av SS.length cv], .int .i64 (d : Int), .int .i64 11]) (by simp [results, Tryz.results60, go_sem, q0, q1, q2, q3, q4, q5]) rfl ?_
        show RetEv _ _ _ _
        rw [HPE.out]
        exact ret_bad rfl hcode hbz
      | true =>
        have hz0 : z = 0 := of_decide_eq_true HQZ.out
        have hv1 := HV1.out hz0
        subst hv1
        have HPN : Hid (p = evEnd r m ρ L pt (fldsD r hd (acc ++ [(⟨bsOf y, ⟨k1, n1, s1'⟩⟩ : Fld)]) ((m.data.zip m.kinds).drop (q + 1)))) := by show _ = _; rw [HDN.out, if_pos hz0, HHY.out]
        have HFX : Hid (FldsOk hd (m.data.take (q + 1)) (acc ++ [(⟨bsOf y, ⟨k1, n1, s1'⟩⟩ : Fld)])) := Lib.hid (by rw [HTS.out, ← HHY.out]; exact HFr.out.more _ (HDV.out hz0))
        obtain ⟨f, hf⟩ : ∃ f : Fld, f = ⟨bsOf y, ⟨k1, n1, s1'⟩⟩ := ⟨_, rfl⟩
        rw [← hf] at HPN HFX
        have HNM : Hid (∀ x ∈ SS, nmOf x ≠ nmOf f) := Lib.hid (fun x hx => by
          have h9 : ((acc ++ [f]).map nmOf).Nodup := HFX.out.sub.nodup (((List.take_sublist _ _).map _).nodup HND.out)
          rw [List.map_append, List.nodup_append] at h9
          exact h9.2.2 _ (List.mem_map_of_mem (HSP.out.mem_iff.1 hx)) _ (by simp))
        have HFT : Hid (FitFl f) := Lib.hid (HFX.out.fit HHL.out f (by simp))
        have HLV : Hid (∀ W, Below w5.heap.size w5 W → Calls Tryz.prog 112 #[.slice Av SS.length cv, .agg #[.string (bsOf y), .int .i64 k1, .int .i64 n1, .string s1']] W fun e w' => ∃ u, e = .returned u ∧ OwnFl w' w5.heap.size u (insL nlt SS f) ∧ Below W.heap.size W w') := Lib.hid (fun W hW => by
          have h9 := field_ref SS f (.slice Av SS.length cv) W ((OwnW.sl (R := RFld) (OwnW.now HO5.out hW) (fun _ => rfl) (fun D W' x hx => ⟨rfl, HFF.out x hx⟩))) HSL.out HFT.out HFO.out
          rw [hf] at h9
          refine Calls.mono h9 ?_
          rintro e w' ⟨k0, u, hk0, h1, h2, he, ho, hb⟩
          rw [← hf] at h1 h2 ho
          rw [ins_place HSC.out HNM.out h1 h2] at ho
          exact ⟨u, he, own_lowF ho hW.size, hb⟩)
        have HSN : Hid (insL nlt SS f = sortS nlt (acc ++ [f])) := Lib.hid (by unfold sortS; rw [List.foldl_append]; show _ = insL nlt (sortS nlt acc) f; rw [HSS.out])
        obtain ⟨S2, hS2⟩ : ∃ S2, insL nlt SS f = S2 := ⟨_, rfl⟩
        rw [hS2] at HLV HSN
        clear hf hS2 hz0 HDN HDV HFT HNM HV1 HFO HQZ HDK
        have hd0 : (0 : Int) ≤ (d : Int) := by omega
        have hd1 : (d : Int) < (hd.length : Int) := by have := HD1.out; have := HLN.out; omega
        have cy5 : w5.cell? ⟨hb, ho + d, none⟩ = some (.string (bsOf y)) := by
          obtain ⟨hb', ho', hA3, _, _, cy⟩ := SlP.cellAt (SlP.now HHH.out HBo5.out) (List.getElem?_eq_getElem (l := hd) (i := d) (by omega)) rfl
          rw [HAH.out] at hA3
          injection hA3 with hA3
          injection hA3 with e1 e2 _
          rw [← e1, ← e2] at cy
          have h9 := cellAt_of (List.getElem?_eq_getElem (l := hd) (i := d) (by omega))
          rw [HHY.out] at h9
          rw [← h9] at cy
          exact cy
        have hcd := cdx
        obtain ⟨v0, v1, v2⟩ := HT.out.c3
        have HDB : Hid (db < w5.heap.size) := Lib.hid (Nat.lt_of_lt_of_le hDd HWO.out)
        have HHB : Hid (hb < w5.heap.size) := Lib.hid (Nat.lt_of_lt_of_le hDh HWO.out)
        clear c0 c1 c2 c3 c4 c5 c6 c7 e0 e1 e2 e3 e4 e5 r0 r1 r2 r3 r4 r5 f0 f1 f2 f3 f4 f5 cdx
        go_upto_region 26 with fail
        refine wp_region_rel3 (by kernel_rfl) (by kernel_rfl) (by kernel_rfl) (fun U W => ¬ U 14 → Below w5.heap.size w5 W) (insF (.slice Av SS.length cv) (.slice Ah hd.length ch) (.slice (some ⟨db, do_, none⟩) m.data.length cd) (.agg #[.int .i64 k1, .int .i64 n1, .string s1']) (.agg #[.string (bsOf y), .int .i64 k1, .int .i64 n1, .string s1']) w.heap.size E db do_ q hb ho d T (bsOf y) (fun (u : Value) (W : World) => OwnFl W w5.heap.size u S2) (fun (W : World) => ∃ A' c', Blk W E 69 #[.string sa, .string sb, .string (bsOf ρ), .int .i64 L, .int .i64 pt, .slice A' S2.length c'] ∧ OwnFl W w8.heap.size (.slice A' S2.length c') S2 ∧ Below E w3 W ∧ w5.heap.size ≤ W.heap.size)) insD ?h0 ?hstep ?hend ?hall
        case hall => exact hall_of (by kernel_rfl)
        case h0 => exact fun _ => (Below.refl _ _).drew
        case hstep =>
          intro i o hop listed ac W hsh hi hk hR hM
          have hni := ready_not hi
          have nd : ∀ j : Nat, (j == 12) = false → ∀ k, insD j k = true → ¬ Up listed k := fun j hj k h => by unfold insD at h; rw [hj] at h; cases h
          match i, hop with
          | 0, hop =>
            injection hop with hop
            subst hop
            have e0 : ac.eval (.tmp 9) = .pointer (some ⟨E, 0, none⟩) := hk.same (s := 9) (by kernel_rfl)
            exact wpM_run (.pointer (some ⟨E, 5, none⟩)) W (by simp only [execOp, e0]; simp [go_sem]) ⟨_, rfl, fun h => hR (fun h' => h (.inr h')), fun u hu => hu (by simp), fun j _ _ _ _ u h => h⟩
          | 1, hop =>
            injection hop with hop
            subst hop
            have e0 : ac.eval (.tmp 130) = .pointer (some ⟨E, 5, none⟩) := hM 0 (by decide) (ready_up hi (by kernel_rfl)) (nd 0 rfl)
            have hW : Below w5.heap.size w5 W := hR (fun h => hni (hsh.up (hsh.up h (show Region.waitsFor .any _ 14 12 = true by kernel_rfl)) (show Region.waitsFor .any _ 12 1 = true by kernel_rfl)))
            have hc := ((HE5.out.now hW).c6.2.2.2.2.2)
            exact wpM_load _ _ _ ((.slice Av SS.length cv)) rfl e0 (by simp [go_sem, hc]) ⟨_, rfl, fun h => hR (fun h' => h (.inr h')), fun u hu => hu (by simp), fun j _ _ _ _ u h => h⟩
          | 2, hop =>
            injection hop with hop
            subst hop
            have e0 : ac.eval (.tmp 1) = .slice Ah hd.length ch := hk.same (s := 1) (by kernel_rfl)
            exact wpM_moveV _ _ rfl e0 ⟨_, rfl, fun h => hR (fun h' => h (.inr h')), fun u hu => hu (by simp), fun j _ _ _ _ u h => h⟩
          | 3, hop =>
            injection hop with hop
            subst hop
            have e0 : ac.eval (.tmp 5) = .pointer (some ⟨w.heap.size, 0, none⟩) := hk.same (s := 5) (by kernel_rfl)
            exact wpM_run (.pointer (some ⟨w.heap.size, 5, none⟩)) W (by simp only [execOp, e0]; simp [go_sem]) ⟨_, rfl, fun h => hR (fun h' => h (.inr h')), fun u hu => hu (by simp), fun j _ _ _ _ u h => h⟩
          | 4, hop =>
            injection hop with hop
            subst hop
            have e0 : ac.eval (.tmp 133) = .pointer (some ⟨w.heap.size, 5, none⟩) := hM 3 (by decide) (ready_up hi (by kernel_rfl)) (nd 3 rfl)
            have hW : Below w5.heap.size w5 W := hR (fun h => hni (hsh.up (hsh.up (hsh.up (hsh.up (hsh.up (hsh.up (hsh.up h (show Region.waitsFor .any _ 14 12 = true by kernel_rfl)) (show Region.waitsFor .any _ 12 11 = true by kernel_rfl)) (show Region.waitsFor .any _ 11 9 = true by kernel_rfl)) (show Region.waitsFor .any _ 9 8 = true by kernel_rfl)) (show Region.waitsFor .any _ 8 7 = true by kernel_rfl)) (show Region.waitsFor .any _ 7 6 = true by kernel_rfl)) (show Region.waitsFor .any _ 6 4 = true by kernel_rfl)))
            have hc := ((HMX.out W (HB5.out.trans (hW.mono (by have := HE5.out.lt; omega)))).c8m.2.2.2.2.2.1)
            exact wpM_load _ _ _ (.slice (some ⟨db, do_, none⟩) m.data.length cd) rfl e0 (by simp [go_sem, hc]) ⟨_, rfl, fun h => hR (fun h' => h (.inr h')), fun u hu => hu (by simp), fun j _ _ _ _ u h => h⟩
          | 5, hop =>
            injection hop with hop
            subst hop
            have e0 : ac.eval (.tmp 12) = .int .i64 (q : Int) := hk.same (s := 12) (by kernel_rfl)
            exact wpM_moveV _ _ rfl e0 ⟨_, rfl, fun h => hR (fun h' => h (.inr h')), fun u hu => hu (by simp), fun j _ _ _ _ u h => h⟩
          | 6, hop =>
            injection hop with hop
            subst hop
            have e0 : ac.eval (.tmp 134) = .slice (some ⟨db, do_, none⟩) m.data.length cd := hM 4 (by decide) (ready_up hi (by kernel_rfl)) (nd 4 rfl)
            have e1 : ac.eval (.tmp 135) = .int .i64 (q : Int) := hM 5 (by decide) (ready_up hi (by kernel_rfl)) (nd 5 rfl)
            exact wpM_run (.pointer (some ⟨db, do_ + q, none⟩)) W (by simp only [execOp, e0, e1]; simp [go_sem, ki0, q1]) ⟨_, rfl, fun h => hR (fun h' => h (.inr h')), fun u hu => hu (by simp), fun j _ _ _ _ u h => h⟩
          | 7, hop =>
            injection hop with hop
            subst hop
            have e0 : ac.eval (.tmp 136) = .pointer (some ⟨db, do_ + q, none⟩) := hM 6 (by decide) (ready_up hi (by kernel_rfl)) (nd 6 rfl)
            have hW : Below w5.heap.size w5 W := hR (fun h => hni (hsh.up (hsh.up (hsh.up (hsh.up (hsh.up h (show Region.waitsFor .any _ 14 12 = true by kernel_rfl)) (show Region.waitsFor .any _ 12 11 = true by kernel_rfl)) (show Region.waitsFor .any _ 11 9 = true by kernel_rfl)) (show Region.waitsFor .any _ 9 8 = true by kernel_rfl)) (show Region.waitsFor .any _ 8 7 = true by kernel_rfl)))
            have hc := ((hW.cell (p := ⟨db, do_ + q, none⟩) HDB.out).trans hcd)
            exact wpM_load _ _ _ (.int .i64 (d : Int)) rfl e0 (by simp [go_sem, hc]) ⟨_, rfl, fun h => hR (fun h' => h (.inr h')), fun u hu => hu (by simp), fun j _ _ _ _ u h => h⟩
          | 8, hop =>
            injection hop with hop
            subst hop
            have e0 : ac.eval (.tmp 132) = .slice Ah hd.length ch := hM 2 (by decide) (ready_up hi (by kernel_rfl)) (nd 2 rfl)
            have e1 : ac.eval (.tmp 137) = .int .i64 (d : Int) := hM 7 (by decide) (ready_up hi (by kernel_rfl)) (nd 7 rfl)
            rw [HAH.out] at e0
            exact wpM_run (.pointer (some ⟨hb, ho + d, none⟩)) W (by simp only [execOp, e0, e1]; simp [go_sem, hd0, hd1]) ⟨_, rfl, fun h => hR (fun h' => h (.inr h')), fun u hu => hu (by simp), fun j _ _ _ _ u h => h⟩
          | 9, hop =>
            injection hop with hop
            subst hop
            have e0 : ac.eval (.tmp 138) = .pointer (some ⟨hb, ho + d, none⟩) := hM 8 (by decide) (ready_up hi (by kernel_rfl)) (nd 8 rfl)
            have hW : Below w5.heap.size w5 W := hR (fun h => hni (hsh.up (hsh.up (hsh.up h (show Region.waitsFor .any _ 14 12 = true by kernel_rfl)) (show Region.waitsFor .any _ 12 11 = true by kernel_rfl)) (show Region.waitsFor .any _ 11 9 = true by kernel_rfl)))
            have hc := ((hW.cell (p := ⟨hb, ho + d, none⟩) HHB.out).trans cy5)
            exact wpM_load _ _ _ (.string (bsOf y)) rfl e0 (by simp [go_sem, hc]) ⟨_, rfl, fun h => hR (fun h' => h (.inr h')), fun u hu => hu (by simp), fun j _ _ _ _ u h => h⟩
          | 10, hop =>
            injection hop with hop
            subst hop
            have e0 : ac.eval (.tmp 14) = .pointer (some ⟨T, 0, none⟩) := hk.same (s := 14) (by kernel_rfl)
            have hW : Below w5.heap.size w5 W := hR (fun h => hni (hsh.up (hsh.up (hsh.up h (show Region.waitsFor .any _ 14 12 = true by kernel_rfl)) (show Region.waitsFor .any _ 12 11 = true by kernel_rfl)) (show Region.waitsFor .any _ 11 10 = true by kernel_rfl)))
            obtain ⟨y0, y1, y2⟩ := (HT.out.now hW).c3
            exact wpM_load _ _ _ (.agg #[.int .i64 k1, .int .i64 n1, .string s1']) rfl e0 (by simp [go_sem, y0, y1, y2]) ⟨_, rfl, fun h => hR (fun h' => h (.inr h')), fun u hu => hu (by simp), fun j _ _ _ _ u h => h⟩
          | 11, hop =>
            injection hop with hop
            subst hop
            have e0 : ac.eval (.tmp 139) = .string (bsOf y) := hM 9 (by decide) (ready_up hi (by kernel_rfl)) (nd 9 rfl)
            have e1 : ac.eval (.tmp 140) = .agg #[.int .i64 k1, .int .i64 n1, .string s1'] := hM 10 (by decide) (ready_up hi (by kernel_rfl)) (nd 10 rfl)
            exact wpM_run (.agg #[.string (bsOf y), .int .i64 k1, .int .i64 n1, .string s1']) W (by generalize ac.eval = ρ0 at e0 e1 ⊢; simp only [execOp]; simp [e0, e1, go_sem]) ⟨_, rfl, fun h => hR (fun h' => h (.inr h')), fun u hu => hu (by simp), fun j _ _ _ _ u h => h⟩
          | 12, hop =>
            injection hop with hop
            subst hop
            have e0 : ac.eval (.tmp 131) = (.slice Av SS.length cv) := hM 1 (by decide) (ready_up hi (by kernel_rfl)) (nd 1 rfl)
            have e1 : ac.eval (.tmp 141) = .agg #[.string (bsOf y), .int .i64 k1, .int .i64 n1, .string s1'] := hM 11 (by decide) (ready_up hi (by kernel_rfl)) (nd 11 rfl)
            have hW : Below w5.heap.size w5 W := hR (fun h => hni (hsh.up h (show Region.waitsFor .any _ 14 12 = true by kernel_rfl)))
            have h14 : ¬ Up listed 14 := fun h => hni (hsh.up h (show Region.waitsFor .any _ 14 12 = true by kernel_rfl))
            refine wpM_callF (f := 112) enters_fieldR _ _ #[(.slice Av SS.length cv), .agg #[.string (bsOf y), .int .i64 k1, .int .i64 n1, .string s1']] _ rfl rfl (by simp only [List.map_toArray, List.map_cons, List.map_nil, e0, e1]) ((HLV.out W hW).mono ?_)
            rintro e W' ⟨u0, rfl, ho, hb'⟩
            refine ⟨_, rfl, _, rfl, fun _ => hW.trans (hb'.mono hW.size), fun u hu => by rw [hu (by simp)]; exact ho, fun j hj hji hu hd u h => ?_⟩
            match j, hj, hji, hu, h with
            | 0, _, _, _, h => exact h
            | 1, _, _, _, h => exact h
            | 2, _, _, _, h => exact h
            | 3, _, _, _, h => exact h
            | 4, _, _, _, h => exact h
            | 5, _, _, _, h => exact h
            | 6, _, _, _, h => exact h
            | 7, _, _, _, h => exact h
            | 8, _, _, _, h => exact h
            | 9, _, _, _, h => exact h
            | 10, _, _, _, h => exact h
            | 11, _, _, _, h => exact h
            | 12, _, hji, _, _ => exact absurd rfl hji
            | 13, _, _, _, h => exact h
            | 14, _, _, hu, _ => exact absurd hu h14
            | n + 15, hj, _, _, _ => exact absurd hj (by simp)
          | 13, hop =>
            injection hop with hop
            subst hop
            have e0 : ac.eval (.tmp 9) = .pointer (some ⟨E, 0, none⟩) := hk.same (s := 9) (by kernel_rfl)
            exact wpM_run (.pointer (some ⟨E, 5, none⟩)) W (by simp only [execOp, e0]; simp [go_sem]) ⟨_, rfl, fun h => hR (fun h' => h (.inr h')), fun u hu => hu (by simp), fun j _ _ _ _ u h => h⟩
          | 14, hop =>
            injection hop with hop
            subst hop
            have e0 : ac.eval (.tmp 143) = .pointer (some ⟨E, 5, none⟩) := hM 13 (by decide) (ready_up hi (by kernel_rfl)) (nd 13 rfl)
            have hW : Below w5.heap.size w5 W := hR hni
            have ho : OwnFl W w5.heap.size (ac.eval (.tmp 142)) S2 := hM 12 (by decide) (ready_up hi (by kernel_rfl)) (fun k h => by have h : k = 14 := (by simpa [insD] using h); rw [h]; exact hni)
            obtain ⟨A', c', hvn⟩ := ho.open_
            rw [hvn] at ho
            have hEW := HE5.out.now hW
            have hcl := hEW.c6.2.2.2.2.2
            have hfz := hEW.frozen 5
            have hP := fld_put hEW (show E < w5.heap.size by have := HE5.out.lt; exact this) (HB5.out.trans (hW.mono (by have := HE5.out.lt; omega))) ho
            refine wpM_store _ _ _ _ _ (W.setCell ⟨E, 5, none⟩ (.slice A' S2.length c')) () rfl e0 hvn (by simp [go_sem, hcl, hfz]) ⟨_, rfl, fun h => absurd (.inl rfl) h, fun u _ => ⟨A', c', hP.1, own_lowF hP.2.1 HS5.out, hP.2.2, by simpa using hW.size⟩, fun j hj hji hu hd u h => ?_⟩
            match j, hj, hji, hd, h with
            | 0, _, _, _, h => exact h
            | 1, _, _, _, h => exact h
            | 2, _, _, _, h => exact h
            | 3, _, _, _, h => exact h
            | 4, _, _, _, h => exact h
            | 5, _, _, _, h => exact h
            | 6, _, _, _, h => exact h
            | 7, _, _, _, h => exact h
            | 8, _, _, _, h => exact h
            | 9, _, _, _, h => exact h
            | 10, _, _, _, h => exact h
            | 11, _, _, _, h => exact h
            | 12, _, _, hd, _ => exact absurd hd (by decide)
            | 13, _, _, _, h => exact h
            | 14, _, hji, _, _ => exact absurd rfl hji
            | n + 15, hj, _, _, _ => exact absurd hj (by simp)
          | n + 15, hop => simp at hop
        case hend =>
          intro ac W U hk hR hM
          have h14 := hM 14 (by decide) (fun k => rfl)
          obtain ⟨A7, c7, hE7, hO7, hB7, hS7⟩ := h14
          have HE7 := Lib.hid hE7
          have HO7 : Hid (OwnFl W w8.heap.size (.slice A7 S2.length c7) (sortS nlt (acc ++ [f]))) := Lib.hid (by rw [← HSN.out]; exact hO7)
          have HB7 := Lib.hid hB7
          have HS7 := Lib.hid (Nat.le_trans HS5.out hS7)
          clear hE7 hO7 hB7 hS7 v0 v1 v2 hcd cy5
          rw [hk.form (by kernel_rfl)]
          simp only [putsAll, Option.getD_some, Act.put, List.setIfInBounds_toArray, List.set_cons_zero, List.set_cons_succ]
          go_wp2_with fail
          go_roundw
          case rel => exact ⟨q + 1, acc ++ [f], _, by go_num, by omega, HE7, HO7, HFX, HPN, HB7, HS7⟩
          case measure => simp [intOf]; omega
    · have hqe : q = m.data.length := by omega
      have hq1 : ¬ (q : Int) < (m.data.length : Int) := by omega
      have HPE : Hid (p = (⟨sa, sb, bsOf ρ, L, pt, SS⟩, 0, 0)) := by
        show _ = _
        rw [HPr.out, hqe, List.drop_eq_nil_of_le (by rw [List.length_zip]; omega), HEND.out, ← HSS.out]
        rfl
      clear hqe hlt HPr HFr
      obtain ⟨c0, c1, c2, c3, c4, c5, c6, c7⟩ := (HMX.out wo HBr.out).c8m
      obtain ⟨e0, e1, e2, e3, e4, e5⟩ := HEr.out.c6
      obtain ⟨r0, r1, r2, r3, r4, r5⟩ := (HRX.out wo HBr.out).c6
      have f0 := (HRX.out wo HBr.out).frozen 0
      have f1 := (HRX.out wo HBr.out).frozen 1
      have f2 := (HRX.out wo HBr.out).frozen 2
      have f3 := (HRX.out wo HBr.out).frozen 3
      have f4 := (HRX.out wo HBr.out).frozen 4
      have f5 := (HRX.out wo HBr.out).frozen 5
      go_wp2_with fail
      have hz := (HRX.out wo HBr.out).put6 (.string sa) (.string sb) (.string (bsOf ρ)) (.int .i64 L) (.int .i64 pt) ((.slice Av SS.length cv))
      have hbz := below6 (HBX.out wo HBr.out) (show w.heap.size ≤ w.heap.size + 1 by omega) (.string sa) (.string sb) (.string (bsOf ρ)) (.int .i64 L) (.int .i64 pt) ((.slice Av SS.length cv))
      obtain ⟨wz, hwz⟩ : ∃ wz, ((((((wo.setCell ⟨w.heap.size + 1, 0, none⟩ (.string sa)).setCell ⟨w.heap.size + 1, 1, none⟩ (.string sb)).setCell ⟨w.heap.size + 1, 2, none⟩ (.string (bsOf ρ))).setCell ⟨w.heap.size + 1, 3, none⟩ (.int .i64 L)).setCell ⟨w.heap.size + 1, 4, none⟩ (.int .i64 pt)).setCell ⟨w.heap.size + 1, 5, none⟩ ((.slice Av SS.length cv))) = wz := ⟨_, rfl⟩
      rw [hwz] at hz hbz ⊢
      have hwz' := hwz
      clear hwz
      obtain ⟨q0, q1, q2, q3, q4, q5⟩ := hz.c6
      refine bodyPost_ret (v := .tuple #[.agg #[.string sa, .string sb, .string (bsOf ρ), .int .i64 L, .int .i64 pt, (.slice Av SS.length cv)], .int .i64 0, .int .i64 0]) (by simp [results, Tryz.results60, go_sem, q0, q1, q2, q3, q4, q5]) rfl ?_
      show RetEv _ _ _ _
      rw [HPE.out]
      have hfit : FitEv ⟨sa, sb, bsOf ρ, L, pt, SS⟩ := ⟨by have := HSA2.out; show sa.size ≤ maxLen; unfold maxLen; omega, by have := HSB2.out; show sb.size ≤ maxLen; unfold maxLen; omega, by have := HRO.out; show (bsOf ρ).size ≤ maxLen; rw [bs_size]; unfold maxLen; omega, by have := HLL.out; show Fit L; unfold Fit; omega, by have := HNF.out; show Fit pt; unfold Fit; omega⟩
      have hown := own_kept6 HOr.out (show w.heap.size + 1 < w8.heap.size by have := HEL.out; have := HEW.out; omega) (.string sa) (.string sb) (.string (bsOf ρ)) (.int .i64 L) (.int .i64 pt) (.slice Av SS.length cv)
      rw [hwz'] at hown
      exact ⟨_, rfl, ⟨_, _, _, _, _, _, _, _, rfl, fun _ => ⟨rfl, hfit, own_low hown (by have := HEL.out; have := HEW.out; omega), HFF.out⟩⟩, hbz⟩
end Go.Proofs.YtoalecalahkblaaGreatDoor
