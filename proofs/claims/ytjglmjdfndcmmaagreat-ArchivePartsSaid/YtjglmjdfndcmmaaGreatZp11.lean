/- Texts of this seat, merged. -/
import Derived.Deep.CutRange
import Derived.Deep.CutBlock
import Derived.Orders
import Derived.Deep.Quiet
import Derived.StillTail
import Derived.Deep.RegionHeld
import Derived.Deep.RegionHeld3
import Derived.Test.YtjglmjdfndcmmaaGreatZp01
import Derived.Test.YtjglmjdfndcmmaaGreatZp02
import Derived.Test.YtjglmjdfndcmmaaGreatZp03
import Derived.Test.YtjglmjdfndcmmaaGreatZp04
import Derived.Test.YtjglmjdfndcmmaaGreatZp05
import Derived.Test.YtjglmjdfndcmmaaGreatZp06
import Derived.Test.YtjglmjdfndcmmaaGreatZp07
import Derived.Test.YtjglmjdfndcmmaaGreatZp08
import Derived.Test.YtjglmjdfndcmmaaGreatZp09
import Derived.Test.YtjglmjdfndcmmaaGreatZp10
set_option linter.all false
set_option linter.all false
namespace Go.Proofs.YtjglmjdfndcmmaaGreat
open Go.RowKit
structure PremC (n below : Nat) (l : List UInt8) (q : Bool) (vals : List Nat) (t : List UInt8) : Prop where
  q : q = false
  len : vals.length = n
  ok : ∀ x ∈ vals, x < below
  code : l = arRuns vals ++ t
structure InvC (n below : Nat) (l : List UInt8) (q : Bool) (out : List Nat) (l' : List UInt8) (q' : Bool) : Prop where
  up : q' = false → q = false
  bnd : ∀ x ∈ out, x < below
  len : out.length ≤ n
  whole : ∀ vals t, PremC n below l q vals t → q' = false ∧ out = vals.take out.length ∧ l' = arRuns (vals.drop out.length) ++ t
structure GotC (n below : Nat) (l : List UInt8) (q : Bool) (out : List Nat) (l' : List UInt8) (q' : Bool) : Prop where
  up : q' = false → q = false
  bnd : ∀ x ∈ out, x < below
  len : out.length ≤ n
  full : q' = false → out.length = n
  whole : ∀ vals t, PremC n below l q vals t → q' = false ∧ out = vals ∧ l' = t
theorem InvC.start {n below : Nat} {l : List UInt8} {q : Bool} : InvC n below l q [] l q := ⟨id, by simp, Nat.zero_le _, fun vals t h => ⟨h.q, by simp, h.code⟩⟩
theorem InvC.got {n below : Nat} {l l' : List UInt8} {q q' : Bool} {out : List Nat} (h : InvC n below l q out l' q') (he : out.length = n ∨ q' = true) : GotC n below l q out l' q' := by
  refine ⟨h.up, h.bnd, h.len, fun hq => ?_, fun vals t hp => ?_⟩
  · rcases he with he | he
    · exact he
    · rw [hq] at he; cases he
  · obtain ⟨e1, e2, e3⟩ := h.whole vals t hp
    rcases he with he | he
    · rw [he, ← hp.len, List.take_length] at e2
      rw [he, ← hp.len, List.drop_length, arRuns_nil, List.nil_append] at e3
      exact ⟨e1, e2, e3⟩
    · rw [e1] at he; cases he
theorem InvC.more {n below x k : Nat} {l l' l1 l2 : List UInt8} {q q1 q2 : Bool} {out : List Nat} (h : InvC n below l q out l' false) (hi : out.length < n) (hn : n < 1000000) (hb : below < 1000000) (h1 : GotM ((below : Int) - 1) l' false x l1 q1) (h2 : GotM ((n : Int) - (out.length : Int)) l1 q1 k l2 q2) (hk : k ≠ 0) : InvC n below l q (if q2 then out else out ++ List.replicate k x) l2 q2 := by
  cases q2
  · have hx := h1.le (h2.up rfl)
    have hkl := h2.le rfl
    refine ⟨fun _ => h.up rfl, fun y hy => ?_, ?_, fun vals t hp => ?_⟩
    · rcases List.mem_append.1 hy with hy | hy
      · exact h.bnd y hy
      · rw [(List.mem_replicate.1 hy).2]; omega
    · show (out ++ List.replicate k x).length ≤ n
      rw [List.length_append, List.length_replicate]; omega
    · obtain ⟨-, e2, e3⟩ := h.whole vals t hp
      obtain ⟨y, K, hK, hiK, hy, hr⟩ := runs_split (vals := vals) (i := out.length) (by rw [hp.len]; exact hi)
      rw [hr] at e3
      have hyb := hp.ok y (List.mem_of_getElem? (hy out.length (Nat.le_refl _) (by omega)))
      obtain ⟨rfl, e4, e5⟩ := h1.whole y (arNum K ++ arRuns (vals.drop (out.length + K)) ++ t) rfl (by rw [e3, List.append_assoc]) (by omega) (by omega)
      have := hp.len
      obtain ⟨rfl, e6, e7⟩ := h2.whole K (arRuns (vals.drop (out.length + K)) ++ t) e5 (by rw [e4, List.append_assoc]) (by omega) (by omega)
      refine ⟨rfl, ?_, ?_⟩
      · show out ++ List.replicate k x = vals.take (out ++ List.replicate k x).length
        rw [List.length_append, List.length_replicate]
        apply List.ext_getElem
        · rw [List.length_append, List.length_replicate, List.length_take]; omega
        · intro m m1 m2
          rw [List.length_append, List.length_replicate] at m1
          rw [List.getElem_take]
          rcases Nat.lt_or_ge m out.length with hm | hm
          · rw [List.getElem_append_left hm]
            have h3 : out[m]? = (vals.take out.length)[m]? := by rw [← e2]
            rw [List.getElem?_eq_getElem hm, List.getElem?_take, if_pos hm, List.getElem?_eq_getElem (by omega)] at h3
            injection h3
          · rw [List.getElem_append_right hm, List.getElem_replicate]
            have h3 := hy m hm (by omega)
            rw [List.getElem?_eq_getElem (by omega)] at h3
            injection h3 with h3
            exact h3.symm
      · show l2 = arRuns (vals.drop (out ++ List.replicate k x).length) ++ t
        rw [List.length_append, List.length_replicate]; exact e6
  · refine ⟨fun h => (by cases h), h.bnd, h.len, fun vals t hp => ?_⟩
    obtain ⟨-, e2, e3⟩ := h.whole vals t hp
    obtain ⟨y, K, hK, hiK, hy, hr⟩ := runs_split (vals := vals) (i := out.length) (by rw [hp.len]; exact hi)
    rw [hr] at e3
    have hyb := hp.ok y (List.mem_of_getElem? (hy out.length (Nat.le_refl _) (by omega)))
    obtain ⟨rfl, e4, e5⟩ := h1.whole y (arNum K ++ arRuns (vals.drop (out.length + K)) ++ t) rfl (by rw [e3, List.append_assoc]) (by omega) (by omega)
    have := hp.len
    obtain ⟨rfl, e6, e7⟩ := h2.whole K (arRuns (vals.drop (out.length + K)) ++ t) e5 (by rw [e4, List.append_assoc]) (by omega) (by omega)
    cases e7
theorem InvC.none_ {n below x : Nat} {l l' l1 l2 : List UInt8} {q q1 q2 : Bool} {out : List Nat} (h : InvC n below l q out l' false) (hi : out.length < n) (hn : n < 1000000) (hb : below < 1000000) (h1 : GotM ((below : Int) - 1) l' false x l1 q1) (h2 : GotM ((n : Int) - (out.length : Int)) l1 q1 0 l2 q2) : InvC n below l q out l2 true := by
  refine ⟨fun h => (by cases h), h.bnd, h.len, fun vals t hp => ?_⟩
  obtain ⟨-, e2, e3⟩ := h.whole vals t hp
  obtain ⟨y, K, hK, hiK, hy, hr⟩ := runs_split (vals := vals) (i := out.length) (by rw [hp.len]; exact hi)
  rw [hr] at e3
  have hyb := hp.ok y (List.mem_of_getElem? (hy out.length (Nat.le_refl _) (by omega)))
  obtain ⟨rfl, e4, e5⟩ := h1.whole y (arNum K ++ arRuns (vals.drop (out.length + K)) ++ t) rfl (by rw [e3, List.append_assoc]) (by omega) (by omega)
  have := hp.len
  obtain ⟨e8, -, -⟩ := h2.whole K (arRuns (vals.drop (out.length + K)) ++ t) e5 (by rw [e4, List.append_assoc]) (by omega) (by omega)
  omega
noncomputable def badC (R : Nat) (w : World) : Nat := open Classical in if w.cell? ⟨R, 2, none⟩ = some (.bool true) then 0 else 1
theorem RdR.badC {B R I : Nat} {w : World} {all : List UInt8} {q : Bool} (h : RdR B w R all I q) : badC R w = if q then 0 else 1 := by
  obtain ⟨b, o, c, h, _⟩ := h
  unfold Go.Proofs.YtjglmjdfndcmmaaGreat.badC
  rw [h.c3.2.2]
  cases q <;> simp
def lenV : Value → Nat
  | .slice _ n _ => n
  | _ => 0
theorem OwnN.chg {w w' : World} {base : Nat} {v : Value} {l : List Nat} {S : Nat → Prop} (h : OwnN w base v l) (k : Chg S w w') (hS : ∀ b, base ≤ b → b < w.heap.size → ¬ S b) : OwnN w' base v l := ownW_chg h k hS
def RetC (B R n below : Nat) (all : List UInt8) (I : Nat) (q : Bool) (w : World) (e : Ending) (w' : World) : Prop := ∃ (v : Value) (out : List Nat) (I' : Nat) (q' : Bool), e = .returned v ∧ OwnN w' w.heap.size v out ∧ RdR B w' R all I' q' ∧ I ≤ I' ∧ GotC n below (all.drop I) q out (all.drop I') q' ∧ Chg (One R) w w'
-- WALK
set_option maxHeartbeats 4000000 in
set_option maxRecDepth 100000 in
theorem rrRuns_any (B R I n below : Nat) (zn zb : Int) (all : List UInt8) (q : Bool) (w : World) (h : RdR B w R all I q) (hB : B ≤ R) (hn : n < 100000) (hb : below < 100000) (hzn : zn = (n : Int)) (hzb : zb = (below : Int)) :
    Calls Tryz.prog 53 #[.pointer (some ⟨R, 0, none⟩), .int .i64 zn, .int .i64 zb] w (RetC B R n below all I q w) := by
  have HR0 := Lib.hid h
  have HRl := Lib.hid h.lt
  subst hzn hzb
  clear h
  go_enter Tryz.func53, Tryz.ntmps53
  go_wp2_with fail
  go_loopw [7] (fun ov wr => ∃ (out : List Nat) (I1 : Nat) (q1 : Bool), Hid (OwnN wr w.heap.size ov out) ∧ Hid (RdR B wr R all I1 q1) ∧ I ≤ I1 ∧ Hid (Chg (One R) w wr) ∧ Hid (InvC n below (all.drop I) q out (all.drop I1) q1)) (fun ov wr => (n - lenV ov) * 2 + badC R wr)
  case atStart => exact ⟨[], I, q, Lib.hid OwnW.nil, HR0, Nat.le_refl _, Lib.hid Chg.refl, Lib.hid InvC.start⟩
  case round =>
    obtain ⟨out, I1, q1, HO, HR, hI1, HC, HV⟩ := hrel
    obtain ⟨wo, rfl⟩ : ∃ wo, wo = wr := ⟨wr, rfl⟩
    obtain ⟨Av, cv, rfl⟩ := OwnN.isSlice HO.out
    have hol := HV.out.len
    obtain ⟨b0, o0, c0, hK, _, _, _, _⟩ := HR.out
    obtain ⟨d0, d1, d2⟩ := hK.c3
    clear hK
    by_cases hlt : out.length < n
    · cases q1
      · have HN1 := Lib.hid (rrNum_any B R I1 ((below : Int) - 1) all false wo HR.out hB)
        go_wp2_with fail
        (with_reducible refine HN1.out.mono ?_)
        rintro _ w1 ⟨x, I2, q2, rfl, hR1, hI2, hG1, hC1⟩
        have HN2 := Lib.hid (rrNum_any B R I2 ((n : Int) - (out.length : Int)) all q2 w1 hR1 hB)
        have HG1 := Lib.hid hG1
        have HC1 := Lib.hid hC1
        clear hR1 hG1 hC1
        go_wp2_with fail
        (with_reducible refine HN2.out.mono ?_)
        rintro _ w2 ⟨k, I3, q3, rfl, hR2, hI3, hG2, hC2⟩
        have HC12 := Lib.hid (HC1.out.trans hC2)
        have HO2 := Lib.hid (OwnN.chg HO.out HC12.out (fun b h1 _ => ne_one HRl.out h1))
        have hkn : k ≤ n - out.length := by
          cases q3
          · have := hG2.le rfl; omega
          · rw [hG2.zero rfl]; exact Nat.zero_le _
        have HG2 := Lib.hid hG2
        have HR2 := Lib.hid hR2
        obtain ⟨b2, o2, c2, hK, _, _, _, _⟩ := hR2
        obtain ⟨e0, e1, e2⟩ := hK.c3
        have fz := hK.frozen 2
        clear hG2 hC2 hK HN1 HN2
        go_upto_if 32 with fail
        go_cut [] from 10 to 50 (fun W => ∃ (q4 : Bool) (out' : List Nat), RdR B W R all I3 q4 ∧ out' = (if q4 then out else out ++ List.replicate k x) ∧ InvC n below (all.drop I) q out' (all.drop I3) q4 ∧ ((k = 0 ∧ q4 = true) ∨ k ≠ 0) ∧ Chg (One R) w2 W)
        case first =>
          by_cases hk0 : k = 0
          · have z1 : ((k : Int) == 0) = true := by simp [hk0]
            have z2 : (k == 0) = true := by simp [hk0]
            have z3 : decide (k = 0) = true := by simp [hk0]
            have HK0 := Lib.hid hk0
            have HF := Lib.hid (HV.out.none_ hlt (by omega) (by omega) HG1.out (by rw [← hk0]; exact HG2.out))
            clear hk0
            go_wp2_with fail
            go_meet
            exact ⟨true, out, (HR2.out.set hB).1, rfl, HF.out, .inl ⟨HK0.out, rfl⟩, Chg.refl.set (p := ⟨R, 2, none⟩) (.inr (show One R R from rfl)) _⟩
          · have z1 : ((k : Int) == 0) = false := by simp; omega
            have z2 : (k == 0) = false := by simp [hk0]
            have z3 : decide (k = 0) = false := by simp [hk0]
            have HK0 := Lib.hid hk0
            have HF := Lib.hid (HV.out.more hlt (by omega) (by omega) HG1.out HG2.out hk0)
            clear hk0
            go_wp2_with fail
            go_meet
            exact ⟨q3, _, HR2.out, rfl, HF.out, .inr HK0.out, Chg.refl⟩
        case rest =>
          obtain ⟨q4, out', hR4, ho4, hV4, hk4, hC4⟩ := hcut
          rename_i wc
          have HR4 := Lib.hid hR4
          have HC4 := Lib.hid ((HC.out.trans HC12.out).trans hC4)
          have HO4 := Lib.hid (OwnN.chg HO2.out hC4 (fun b h1 _ => ne_one HRl.out h1))
          have HV4 := Lib.hid hV4
          have HOO := Lib.hid ho4
          have HK4 := Lib.hid hk4
          have hsz4 := HC4.out.size
          clear hR4 hV4 hk4 hC4 ho4 e0 e1 e2 fz d0 d1 d2
          go_wp2_with fail
          go_loopw [7, 9] (fun ov kv wr => ∃ (m : Nat) (outm : List Nat), kv = .int .i64 (m : Int) ∧ m ≤ k ∧ Hid (outm = out ++ List.replicate (k - m) x) ∧ (q4 = true → m = k) ∧ Hid (OwnN wr w.heap.size ov outm) ∧ Hid (RdR B wr R all I3 q4) ∧ Hid (Chg (One R) w wr)) (fun _ kv _ => (intOf kv).toNat)
          case atStart => exact ⟨k, out, rfl, Nat.le_refl _, Lib.hid (by simp), fun _ => rfl, HO4, HR4, HC4⟩
          case round =>
            obtain ⟨m, outm, rfl, hm, HM, hmq, HOm, HRm, HCm⟩ := hrel
            obtain ⟨w5, rfl⟩ : ∃ w5, w5 = wr := ⟨wr, rfl⟩
            obtain ⟨b5, o5, c5, hK, _, _, _, _⟩ := HRm.out
            obtain ⟨e0, e1, e2⟩ := hK.c3
            obtain ⟨Am, cm, rfl⟩ := OwnN.isSlice HOm.out
            clear hK
            have HLM : Hid (outm.length = out.length + (k - m)) := Lib.hid (by rw [HM.out, List.length_append, List.length_replicate])
            by_cases hm0 : m = 0
            · have z1 : ¬ (0 : Int) < (m : Int) := by omega
              have HFI : Hid (InvC n below (all.drop I) q outm (all.drop I3) q4) := Lib.hid (by
                have h1 := HV4.out
                cases q4
                · rw [HOO.out] at h1
                  rw [HM.out, hm0, Nat.sub_zero]
                  exact h1
                · have : m = k := hmq rfl
                  rw [HOO.out] at h1
                  rw [HM.out, ← this, Nat.sub_self]
                  simpa using h1)
              have HMS : Hid ((n - outm.length) * 2 + badC R w5 < (n - out.length) * 2 + badC R wo) := Lib.hid (by
                rw [HRm.out.badC, HR.out.badC, HLM.out]
                rcases HK4.out with ⟨h1, h2⟩ | h1
                · rw [h2]; simp; omega
                · cases q4
                  · simp; omega
                  · have := hmq rfl; simp; omega)
              clear hm0
              go_wp2_with fail
              go_roundw
              case rel => exact ⟨outm, I3, q4, HOm, HRm, by omega, HCm, HFI⟩
              case measure => exact HMS.out
            · have z1 : (0 : Int) < (m : Int) := by omega
              cases q4
              · obtain ⟨m1, rfl⟩ : ∃ m1, m = m1 + 1 := ⟨m - 1, by omega⟩
                have hol5 : outm.length < 10000000 := by have := HLM.out; omega
                have hsz5 := HCm.out.size
                clear hm0
                go_wp2_with (at_builtin; refine wpList_pushW (fc := cellN) appNs rfl (.tmp 47) (.tmp 49) rfl w5 x outm rfl (cellN_one x) _ rfl HOm.out rfl hol5 hsz5 ?_; intro v' w' hown' hgr hat)
                have hC5 : Chg (fun i => w.heap.size ≤ i) w5 w' := ⟨hgr.os, hgr.tape, hgr.output, hgr.size, fun i hi hn => hgr.block i hi (fun e => hn (World.ownsRow.lt HOm.out i e.symm).1)⟩
                have hR5 := HRm.out.chg hC5 (by have := HRm.out.lt; omega) (by have := HRl.out; omega) (fun i hi => by have := HRl.out; omega)
                go_roundw
                case rel => exact ⟨m1, outm ++ [x], by go_num, by omega, Lib.hid (by rw [HM.out, List.append_assoc, show k - m1 = (k - (m1 + 1)) + 1 by omega, List.replicate_succ']), fun h => (by cases h), Lib.hid hown', Lib.hid hR5, Lib.hid (HCm.out.next (hC5.mono fun i _ h => .inr h))⟩
                case measure => simp [intOf]
              · have hmk := hmq rfl
                have HFI : Hid (InvC n below (all.drop I) q outm (all.drop I3) true) := Lib.hid (by
                  have h1 := HV4.out
                  rw [HOO.out] at h1
                  rw [HM.out, hmk, Nat.sub_self]
                  simpa using h1)
                have HMS : Hid ((n - outm.length) * 2 + badC R w5 < (n - out.length) * 2 + badC R wo) := Lib.hid (by
                  rw [HRm.out.badC, HR.out.badC, HLM.out]
                  simp; omega)
                clear hm0 hmk hmq
                go_wp2_with fail
                go_roundw
                case rel => exact ⟨outm, I3, true, HOm, HRm, by omega, HCm, HFI⟩
                case measure => exact HMS.out
      · have HF := Lib.hid (HV.out.got (.inr rfl))
        go_wp2_with fail
        go_ret
        exact ⟨_, out, I1, true, rfl, HO.out, HR.out, hI1, HF.out, HC.out⟩
    · have hen : out.length = n := by omega
      have HF := Lib.hid (HV.out.got (.inl hen))
      have z1 : ¬ (out.length : Int) < (n : Int) := by omega
      clear hen
      go_wp2_with fail
      go_ret
      exact ⟨_, out, I1, q1, rfl, HO.out, HR.out, hI1, HF.out, HC.out⟩
end Go.Proofs.YtjglmjdfndcmmaaGreat

set_option linter.all false
namespace Go.Proofs.YtjglmjdfndcmmaaGreat
open Go.RowKit
def OpenRes (l : List UInt8) (x : List Ev) (k : Int) : Prop := (k = 0 ∧ logB x = true ∧ arPack x = l ∧ ∀ es, logB es = true → arPack es = l → x = es) ∨ (k = 3 ∧ x = [] ∧ ∀ es, logB es = true → arPack es ≠ l)
def SumOk (l : List UInt8) : Prop := l.drop (l.length - 4) = le4 (sumOf (l.take (l.length - 4)))
def OpenSaid (l : List UInt8) (x : List Ev) (k : Int) : Prop := (262144 < l.length ∧ x = [] ∧ k = 5) ∨ (l.length ≤ 262144 ∧ (l.length < 4 ∨ ¬ SumOk l) ∧ x = [] ∧ k = 14) ∨ (l.length ≤ 262144 ∧ 4 ≤ l.length ∧ SumOk l ∧ OpenRes l x k)
theorem OpenRes.unique {l : List UInt8} {x x' : List Ev} {k k' : Int} (h : OpenRes l x k) (h' : OpenRes l x' k') : x' = x ∧ k' = k := by
  rcases h with ⟨rfl, h1, h2, h3⟩ | ⟨rfl, rfl, h1⟩
  · rcases h' with ⟨rfl, g1, g2, g3⟩ | ⟨rfl, rfl, g1⟩
    · exact ⟨g3 x h1 h2, rfl⟩
    · exact absurd h2 (g1 x h1)
  · rcases h' with ⟨rfl, g1, g2, g3⟩ | ⟨rfl, rfl, g1⟩
    · exact absurd g2 (h1 x' g1)
    · exact ⟨rfl, rfl⟩
theorem OpenSaid.unique {l : List UInt8} {x x' : List Ev} {k k' : Int} (h : OpenSaid l x k) (h' : OpenSaid l x' k') : x' = x ∧ k' = k := by
  rcases h with ⟨h1, rfl, rfl⟩ | ⟨h1, h2, rfl, rfl⟩ | ⟨h1, h2, h3, h4⟩
  · rcases h' with ⟨g1, rfl, rfl⟩ | ⟨g1, g2, rfl, rfl⟩ | ⟨g1, g2, g3, g4⟩
    · exact ⟨rfl, rfl⟩
    · omega
    · omega
  · rcases h' with ⟨g1, rfl, rfl⟩ | ⟨g1, g2, rfl, rfl⟩ | ⟨g1, g2, g3, g4⟩
    · omega
    · exact ⟨rfl, rfl⟩
    · rcases h2 with h2 | h2
      · omega
      · exact absurd g3 h2
  · rcases h' with ⟨g1, rfl, rfl⟩ | ⟨g1, g2, rfl, rfl⟩ | ⟨g1, g2, g3, g4⟩
    · omega
    · rcases g2 with g2 | g2
      · omega
      · exact absurd h3 g2
    · exact h4.unique g4
theorem arPack_body {es : List Ev} {l : List UInt8} (h : arPack es = l) : l.take (l.length - 4) = arBody es := by
  subst h
  unfold arPack
  rw [List.length_append, show (le4 (sumOf (arBody es))).length = 4 from rfl, Nat.add_sub_cancel, List.take_left]
def bodyRest (es : List Ev) (k : Nat) : List UInt8 := ((List.range (nParts es)).drop k).flatMap fun i => arBlock (part es i)
theorem body_start (es : List Ev) : arBody es = arNum es.length ++ bodyRest es 0 := rfl
theorem body_next {es : List Ev} {k : Nat} (hk : k < nParts es) : bodyRest es k = arBlock (part es k) ++ bodyRest es (k + 1) := by
  unfold bodyRest
  exact flat_drop (fun i => arBlock (part es i)) (l := List.range (nParts es)) (by rw [List.getElem?_range hk])
theorem part_count (es : List Ev) (k : Nat) : (part es k).length = min 100 (es.length - 100 * k) := by
  unfold part; rw [List.length_take, List.length_drop]
theorem part_get (es : List Ev) {k m : Nat} (hm : m < 100) : (part es k)[m]? = es[100 * k + m]? := by
  unfold part; rw [List.getElem?_take, if_pos hm, List.getElem?_drop]
def zeroEv : Ev := ⟨⟨#[]⟩, ⟨#[]⟩, ⟨#[]⟩, 0, 0, []⟩
structure PartsAt (body : List UInt8) (N0 k : Nat) (ev' : Nat → Ev) (l' : List UInt8) (q' : Bool) : Prop where
  zero : ∀ i, 100 * k ≤ i → ev' i = zeroEv
  whole : ∀ es, logB es = true → body = arBody es → q' = false ∧ N0 = es.length ∧ l' = bodyRest es k ∧ ∀ i e, i < 100 * k → es[i]? = some e → ev' i = e
theorem PartsAt.start {body l' : List UInt8} {N0 : Nat} {q' : Bool} (h : GotN 2000 body false N0 l' q') : PartsAt body N0 0 (fun _ => zeroEv) l' q' := by
  refine ⟨fun _ _ => rfl, fun es hv hb => ?_⟩
  have hl := (log_parts hv).1
  obtain ⟨e1, e2, e3⟩ := h.whole es.length (bodyRest es 0) rfl (by rw [hb, body_start]) hl (by omega)
  exact ⟨e3, e1, e2, fun i e hi => absurd hi (by omega)⟩
theorem PartsAt.step {body l' l2 : List UInt8} {N0 k len : Nat} {ev' ev2 : Nat → Ev} {q' q2 : Bool} (h : PartsAt body N0 k ev' l' q') (hk : 100 * k < N0) (hlen : len = min 100 (N0 - 100 * k)) (hg : GotB (100 * k) len ev' l' q' ev2 l2 q2) : PartsAt body N0 (k + 1) ev2 l2 q2 := by
  refine ⟨fun i hi => (hg.out i (.inr (by omega))).trans (h.zero i (by omega)), fun es hv hb => ?_⟩
  obtain ⟨e1, e2, e3, e4⟩ := h.whole es hv hb
  obtain ⟨hl, hok⟩ := log_parts hv
  have hkp : k < nParts es := by unfold nParts; omega
  rw [body_next hkp] at e3
  obtain ⟨e5, e6, e7⟩ := hg.whole (part es k) (bodyRest es (k + 1)) ⟨e1, by rw [part_count, hlen, e2], fun e he => hok e (part_mem he), (log_time hv).sublist ((List.take_sublist _ _).trans (List.drop_sublist _ _)), e3⟩
  refine ⟨e5, e2, e6, fun i e hi he => ?_⟩
  rcases Nat.lt_or_ge i (100 * k) with h1 | h1
  · rw [hg.out i (.inl h1)]; exact e4 i e h1 he
  · obtain ⟨m, rfl⟩ : ∃ m, i = 100 * k + m := ⟨i - 100 * k, by omega⟩
    exact e7 m e (by rw [part_get es (by omega)]; exact he)
theorem PartsAt.done {body l' : List UInt8} {N0 k : Nat} {ev' : Nat → Ev} {q' : Bool} (h : PartsAt body N0 k ev' l' q') (hk : N0 ≤ 100 * k) : ∀ es, logB es = true → body = arBody es → q' = false ∧ (List.range N0).map ev' = es := by
  intro es hv hb
  obtain ⟨e1, e2, -, e4⟩ := h.whole es hv hb
  refine ⟨e1, ?_⟩
  apply List.ext_getElem
  · simpa using e2
  · intro i h1 h2
    rw [List.getElem_map, List.getElem_range]
    exact e4 i es[i] (by omega) (List.getElem?_eq_getElem h2)
theorem make_evs (N : Nat) (hN : N ≤ 2000) : ∃ cs : Array Value, (∀ w, (Instr.makeSlice 23 (.int .i64 (N : Int)) (.int .i64 (N : Int))).run Tryz.prog w = .ok (.slice (some ⟨w.heap.size, 0, none⟩) N N) (w.alloc (.cells cs 57))) ∧ cs.size = N * 6 ∧
    ∀ j, j < N → ∀ k u, (evCells zeroEv (.slice none 0 0))[k]? = some u → cs[j * 6 + k]? = some u := by
  obtain ⟨i, hi, hz, hs, hb⟩ := info_parts evInfo
  refine ⟨madeCells (Value.agg #[.string ⟨#[]⟩, .string ⟨#[]⟩, .string ⟨#[]⟩, .int .i64 0, .int .i64 0, .slice none 0 0]).cells (N * 6), fun w => ?_, size_madeCells _ _, fun j hj k u hu => ?_⟩
  · have := run_make (P := Tryz.prog) w 23 57 i _ Tryz.underlying23 hi hz .i64 .i64 (N : Int) (N : Int) (by omega) (by omega) (by rw [hb]; omega) (by omega)
    rw [Int.toNat_natCast, hs] at this
    exact this
  · have hk := evCells_lt hu
    unfold madeCells
    rw [Array.getElem?_map, Array.getElem?_range, if_pos (by omega)]
    show some _ = _
    rw [← hu]
    match k, hk with
    | 0, _ => simp [evCells, zeroEv, Value.cells, Nat.add_mod]
    | 1, _ => simp [evCells, zeroEv, Value.cells, Nat.add_mod]
    | 2, _ => simp [evCells, zeroEv, Value.cells, Nat.add_mod]
    | 3, _ => simp [evCells, zeroEv, Value.cells, Nat.add_mod]
    | 4, _ => simp [evCells, zeroEv, Value.cells, Nat.add_mod]
    | 5, _ => simp [evCells, zeroEv, Value.cells, Nat.add_mod]
    | k + 6, h => omega
theorem EvF.made {w : World} {cs : Array Value} {N : Nat} {D : Nat → Prop} (hs : cs.size = N * 6) (hc : ∀ j, j < N → ∀ k u, (evCells zeroEv (.slice none 0 0))[k]? = some u → cs[j * 6 + k]? = some u) : EvF (w.alloc (.cells cs 57)) w.heap.size N (fun _ => zeroEv) D :=
  ⟨cs, fun _ => .slice none 0 0, Blk.new _ _ _, Nat.le_of_eq hs.symm, fun j hj => ⟨⟨Nat.zero_le _, Nat.zero_le _, Nat.zero_le _, fitI (by show _ ≤ (0 : Int) ∧ (0 : Int) ≤ _; omega), fitI (by show _ ≤ (0 : Int) ∧ (0 : Int) ≤ _; omega)⟩, ⟨Sl.none_, fun _ => rfl⟩, hc j hj⟩⟩
end Go.Proofs.YtjglmjdfndcmmaaGreat

set_option linter.all false
namespace Go.Proofs.YtjglmjdfndcmmaaGreat
open Go.RowKit
theorem GotM.toN {most n : Nat} {l l' : List UInt8} {q q' : Bool} (h : GotM (most : Int) l q n l' q') (hs : l'.length ≤ l.length) : GotN most l q n l' q' :=
  ⟨h.le', h.up, hs, fun m t hq hl hm h63 => h.whole m t hq hl (by omega) h63⟩
theorem drop_short {all : List UInt8} {I I' : Nat} (h : I ≤ I') : (all.drop I').length ≤ (all.drop I).length := by rw [List.length_drop, List.length_drop]; omega
structure WordsR (len : Nat) (l : List UInt8) (q : Bool) (cnt i : Nat) (out : List Bs) (l' : List UInt8) (q' : Bool) : Prop where
  up : q' = false → q = false
  count : out.length = i
  fit : ∀ s ∈ out, s.length ≤ 1000
  whole : ∀ es t, PremB len l q es t → q' = false ∧ cnt = (words es).length ∧ out = (words es).take i ∧ l' = ((words es).drop i).flatMap arText ++ tail1 es t
theorem WordsR.start {len cnt : Nat} {l l' : List UInt8} {q q' : Bool} (hlen : len ≤ 100) (h : GotM 300 l q cnt l' q') : WordsR len l q cnt 0 [] l' q' := by
  refine ⟨h.up, rfl, by simp, fun es t hp => ?_⟩
  have h1 := words_len es
  have h2 := hp.len
  obtain ⟨e1, e2, e3⟩ := h.whole _ _ hp.q (by rw [hp.code, block_tail]) (by omega) (by omega)
  exact ⟨e3, e1, by simp, e2⟩
theorem WordsR.step {len cnt i : Nat} {l l' l2 : List UInt8} {q q2 : Bool} {out : List Bs} {s : ByteArray} (h : WordsR len l q cnt i out l' false) (hi : i < cnt) (h2 : GotU l' false s l2 q2) : WordsR len l q cnt (i + 1) (out ++ [s.data.toList]) l2 q2 := by
  refine ⟨fun _ => h.up rfl, by rw [List.length_append, h.count]; rfl, fun x hx => ?_, fun es t hp => ?_⟩
  · rcases List.mem_append.1 hx with hx | hx
    · exact h.fit x hx
    · rw [List.mem_singleton.1 hx, size_eq]; exact h2.size
  · obtain ⟨-, e1, e2, e3⟩ := h.whole es t hp
    have hiw : (words es)[i]? = some (words es)[i] := List.getElem?_eq_getElem (by omega)
    rw [flat_drop arText hiw, List.append_assoc] at e3
    have hsz := words_size hp.ok _ (List.mem_of_getElem? hiw)
    obtain ⟨e4, e5, e6⟩ := h2.whole _ _ rfl e3 (by omega)
    exact ⟨e6, e1, by rw [take_next hiw, e2, e4], e5⟩
theorem WordsR.done {len cnt i : Nat} {l l' : List UInt8} {q q' : Bool} {out : List Bs} (h : WordsR len l q cnt i out l' q') (hi : i = cnt ∨ q' = true) : ∀ es t, PremB len l q es t → q' = false ∧ out = words es ∧ l' = tail1 es t := by
  intro es t hp
  obtain ⟨e1, e2, e3, e4⟩ := h.whole es t hp
  rcases hi with rfl | hi
  · rw [List.drop_eq_nil_of_le (by omega)] at e4
    exact ⟨e1, by rw [e3, List.take_of_length_le (by omega)], by simpa using e4⟩
  · rw [hi] at e1; cases e1
structure ColsR (len : Nat) (l : List UInt8) (q : Bool) (ws : List Bs) (a b c d : List Nat) (l' : List UInt8) (q' : Bool) : Prop where
  up : q' = false → q = false
  fit : ∀ s ∈ ws, s.length ≤ 1000
  ba : ∀ x ∈ a, x < ws.length
  bb : ∀ x ∈ b, x < ws.length
  bc : ∀ x ∈ c, x < ws.length
  bd : ∀ x ∈ d, x < 7
  full : q' = false → a.length = len ∧ b.length = len ∧ c.length = len ∧ d.length = len
  whole : ∀ es t, PremB len l q es t → q' = false ∧ l' = tail5 es t ∧ ws = words es ∧ a = colV 0 es ∧ b = colV 1 es ∧ c = colV 2 es ∧ d = es.map fun e => e.life.toNat
theorem PremB.colC {len : Nat} {l : List UInt8} {q : Bool} {es : List Ev} {t : List UInt8} (h : PremB len l q es t) (k : Nat) {l' r : List UInt8} (hl : l' = arRuns (colV k es) ++ r) : PremC len (words es).length l' false (colV k es) r := by
  refine ⟨rfl, by unfold colV; rw [List.length_map]; exact h.len, fun x hx => ?_, hl⟩
  obtain ⟨e, he, rfl⟩ := List.mem_map.1 hx
  exact atW_lt' (word_mem3 he k)
theorem PremB.lifeC {len : Nat} {l : List UInt8} {q : Bool} {es : List Ev} {t : List UInt8} (h : PremB len l q es t) {l' r : List UInt8} (hl : l' = arRuns (es.map fun e => e.life.toNat) ++ r) : PremC len 7 l' false (es.map fun e => e.life.toNat) r := by
  refine ⟨rfl, by rw [List.length_map]; exact h.len, fun x hx => ?_, hl⟩
  obtain ⟨e, he, rfl⟩ := List.mem_map.1 hx
  have := (h.ok e he).life
  omega
theorem colsR {len cnt i : Nat} {l l1 l2 l3 l4 l5 : List UInt8} {q q1 q2 q3 q4 q5 : Bool} {ws : List Bs} {a b c d : List Nat} (h : WordsR len l q cnt i ws l1 q1) (hi : i = cnt ∨ q1 = true) (h1 : GotC len ws.length l1 q1 a l2 q2) (h2 : GotC len ws.length l2 q2 b l3 q3) (h3 : GotC len ws.length l3 q3 c l4 q4) (h4 : GotC len 7 l4 q4 d l5 q5) : ColsR len l q ws a b c d l5 q5 := by
  refine ⟨fun e => h.up (h1.up (h2.up (h3.up (h4.up e)))), h.fit, h1.bnd, h2.bnd, h3.bnd, h4.bnd, fun e => ⟨h1.full (h2.up (h3.up (h4.up e))), h2.full (h3.up (h4.up e)), h3.full (h4.up e), h4.full e⟩, fun es t hp => ?_⟩
  obtain ⟨rfl, rfl, e2⟩ := h.done hi es t hp
  obtain ⟨rfl, g1, e3⟩ := h1.whole _ _ (hp.colC 0 e2)
  obtain ⟨rfl, g2, e4⟩ := h2.whole _ _ (hp.colC 1 e3)
  obtain ⟨rfl, g3, e5⟩ := h3.whole _ _ (hp.colC 2 e4)
  obtain ⟨rfl, g4, e6⟩ := h4.whole _ _ (hp.lifeC e5)
  exact ⟨rfl, e6, rfl, g1, g2, g3, g4⟩
def madeEv (ws : List Bs) (x y z d : Nat) (T : Int) : Ev := ⟨wordAt (ws.map mkS) x, wordAt (ws.map mkS) y, wordAt (ws.map mkS) z, (d : Int), T, []⟩
structure TimeR (len : Nat) (l : List UInt8) (q : Bool) (j T : Nat) (xs : List Ev) (l' : List UInt8) (q' : Bool) : Prop where
  up : q' = false → q = false
  count : xs.length = j
  fit : ∀ e ∈ xs, FitEv e ∧ e.data = []
  whole : ∀ es t, PremB len l q es t → q' = false ∧ l' = arTimes T (es.drop j) ++ (es.flatMap arData ++ t) ∧ TimeI es j T ∧ ∀ i e, i < j → es[i]? = some e → xs[i]? = some (fill5 zeroEv e)
theorem ColsR.start {len : Nat} {l l' : List UInt8} {q q' : Bool} {ws : List Bs} {a b c d : List Nat} (h : ColsR len l q ws a b c d l' q') : TimeR len l q 0 0 [] l' q' :=
  ⟨h.up, rfl, by simp, fun es t hp => by
    obtain ⟨e1, e2, -⟩ := h.whole es t hp
    exact ⟨e1, e2, ⟨fun _ => rfl, fun j hj => absurd hj (by omega)⟩, fun i e hi => absurd hi (by omega)⟩⟩
theorem TimeR.step {len j T n x y z d0 : Nat} {l l' l2 l0 : List UInt8} {q q' q2 q0 : Bool} {ws : List Bs} {a b c d : List Nat} {xs : List Ev} (h : TimeR len l q j T xs l' q') (hc : ColsR len l q ws a b c d l0 q0) (hj : j < len) (hT : T + n < 9223372036854775808) (hx : a[j]? = some x) (hy : b[j]? = some y) (hz : c[j]? = some z) (hd : d[j]? = some d0) (hn : GotM 1099511627776 l' q' n l2 q2) :
    TimeR len l q (j + 1) (T + n) (xs ++ [madeEv ws x y z d0 ((T + n : Nat) : Int)]) l2 q2 := by
  refine ⟨fun h2 => h.up (hn.up h2), by rw [List.length_append, h.count]; rfl, fun e he => ?_, fun es t hp => ?_⟩
  · rcases List.mem_append.1 he with he | he
    · exact h.fit e he
    · rw [List.mem_singleton.1 he]
      have hw : ∀ k, (wordAt (ws.map mkS) k).size ≤ maxLen := fun k => by
        unfold wordAt
        rw [List.getD_eq_getElem?_getD, List.getElem?_map]
        cases h : ws[k]? with
        | none => exact Nat.zero_le _
        | some s =>
          show (mkS s).size ≤ maxLen
          rw [mkS_size]
          have := hc.fit s (List.mem_of_getElem? h)
          unfold maxLen; omega
      have hd7 := hc.bd d0 (List.mem_of_getElem? hd)
      exact ⟨⟨hw _, hw _, hw _, fitI (by show _ ≤ (d0 : Int) ∧ (d0 : Int) ≤ _; omega), fitI (by show _ ≤ ((T + n : Nat) : Int) ∧ ((T + n : Nat) : Int) ≤ _; omega)⟩, rfl⟩
  · obtain ⟨e1, e2, e3, e4⟩ := h.whole es t hp
    obtain ⟨-, -, rfl, rfl, rfl, rfl, rfl⟩ := hc.whole es t hp
    have hlt : j < es.length := by rw [hp.len]; exact hj
    have he : es[j]? = some es[j] := List.getElem?_eq_getElem hlt
    generalize es[j] = e at he
    have hm := List.mem_of_getElem? he
    have hto := (hp.ok e hm).time
    have hlo := (hp.ok e hm).life
    have hTe : (T : Int) ≤ e.time := by
      rcases Nat.eq_zero_or_pos j with h0 | h0
      · have := e3.first h0; omega
      · have hjj : es[j - 1]? = some es[j - 1] := List.getElem?_eq_getElem (by omega)
        have h1 := e3.last (j - 1) (by omega) _ hjj
        have h2 := List.pairwise_iff_getElem.1 hp.mono (j - 1) j (by omega) hlt (by omega)
        rw [h1]
        have h3 : es[j] = e := by rw [List.getElem?_eq_getElem hlt] at he; injection he
        rw [h3] at h2
        exact h2
    rw [time_step he, List.append_assoc] at e2
    obtain ⟨rfl, e6, e7⟩ := hn.whole _ _ e1 e2 (by omega) (by omega)
    have hT2 : ((T + (e.time - T).toNat : Nat) : Int) = e.time := by omega
    refine ⟨e7, by rw [hT2]; exact e6, ⟨fun h => absurd h (by omega), fun i hi e' he' => ?_⟩, fun i e' hi he' => ?_⟩
    · obtain rfl : i = j := by omega
      rw [he] at he'
      injection he' with he'
      rw [← he', hT2]
    · by_cases hij : i = j
      · subst hij
        rw [he] at he'
        injection he' with he'
        subst he'
        rw [List.getElem?_append_right (by rw [h.count]; exact Nat.le_refl _), h.count, Nat.sub_self]
        unfold colV at hx hy hz
        rw [List.getElem?_map, he] at hx hy hz hd
        injection hx with hx; injection hy with hy; injection hz with hz; injection hd with hd
        simp only [if_true, if_false, Nat.one_ne_zero, show ¬ (2 : Nat) = 0 by omega, show ¬ (2 : Nat) = 1 by omega] at hx hy hz
        have w0 := atW_at (word_mem3 hm 0)
        have w1 := atW_at (word_mem3 hm 1)
        have w2 := atW_at (word_mem3 hm 2)
        simp only [if_true, if_false, Nat.one_ne_zero, show ¬ (2 : Nat) = 0 by omega, show ¬ (2 : Nat) = 1 by omega] at w0 w1 w2
        show some (madeEv (words es) x y z d0 _) = _
        unfold madeEv fill5 fill4 zeroEv
        rw [← hx, ← hy, ← hz, w0, w1, w2, hT2, ← hd]
        congr 2
        show ((e.life.toNat : Nat) : Int) = e.life
        omega
      · rw [List.getElem?_append_left (by rw [h.count]; omega)]
        exact e4 i e' (by omega) he'
theorem TimeR.done {len j T : Nat} {l l' : List UInt8} {q q' : Bool} {xs : List Ev} (h : TimeR len l q j T xs l' q') (hj : j = len ∨ q' = true) (hjl : j ≤ len) : DataAt 0 len (fun _ => zeroEv) l q 0 (fun i => xs.getD i zeroEv) l' q' := by
  refine ⟨h.up, fun i _ hi => ?_, fun i hi => ?_, fun es t hp => ?_⟩
  · rw [Nat.zero_add, List.getD_eq_getElem?_getD]
    cases hx : xs[i]? with
    | none => rfl
    | some e => exact (h.fit e (List.mem_of_getElem? hx)).2
  · rcases hi with hi | hi
    · omega
    · rw [List.getD_eq_getElem?_getD, List.getElem?_eq_none (by rw [h.count]; omega)]; rfl
  · obtain ⟨e1, e2, -, e4⟩ := h.whole es t hp
    rcases hj with rfl | hj
    · rw [List.drop_eq_nil_of_le (by rw [hp.len]; exact Nat.le_refl _)] at e2
      refine ⟨e1, by simpa [arTimes] using e2, fun i e hi => absurd hi (by omega), fun i e _ he => ?_⟩
      rw [Nat.zero_add, List.getD_eq_getElem?_getD, e4 i e (by have := (List.getElem?_eq_some_iff.1 he).1; rw [hp.len] at this; exact this) he]; rfl
    · rw [hj] at e1; cases e1
theorem FldAt.stepR {s len j cnt i : Nat} {ev : Nat → Ev} {l l' l2 l3 : List UInt8} {q q2 q3 : Bool} {fs : List Fld} {sx : ByteArray} {vx : Val} (h : FldAt s len ev l q j cnt i fs l' false) (hi : i < cnt) (h2 : GotU l' false sx l2 q2) (h3 : GotW l2 q2 vx l3 q3) : FldAt s len ev l q j cnt (i + 1) (fs ++ [⟨sx, vx⟩]) l3 q3 := by
  refine ⟨fun _ => h.up rfl, by rw [List.length_append, h.count]; rfl, fun f hf => ?_, fun es t hp e he => ?_⟩
  · rcases List.mem_append.1 hf with hf | hf
    · exact h.fit f hf
    · rw [List.mem_singleton.1 hf]; exact ⟨by have := h2.size; show sx.size ≤ maxLen; unfold maxLen; omega, h3.fit⟩
  · obtain ⟨-, e1, e2, e3⟩ := h.whole es t hp e he
    have hif : e.data[i]? = some e.data[i] := List.getElem?_eq_getElem (by omega)
    generalize e.data[i]'(by omega) = f at hif
    obtain ⟨hfn, hfv⟩ := fld_parts (flds_mem (hp.ok e (List.mem_of_getElem? he)).flds f (List.mem_of_getElem? hif))
    have hfs := (name_size hfn).2
    rw [flat_drop arFld hif] at e3
    unfold arFld at e3
    obtain ⟨e4, e5, e6⟩ := h2.whole f.nm.data.toList (arVal f.v ++ ((e.data.drop (i + 1)).flatMap arFld ++ ((es.drop (j + 1)).flatMap arData ++ t))) rfl (by rw [e3]; simp only [List.append_assoc]; rfl) (by rw [size_eq]; omega)
    obtain ⟨e7, e8, e9⟩ := h3.whole f.v _ e6 hfv e5
    refine ⟨e9, e1, ?_, e8⟩
    rw [take_next hif, e2]
    congr 2
    cases f with
    | mk a b =>
      simp only at e4 e7
      subst e7
      congr
      cases sx; cases a
      simp only at e4
      congr
      exact Array.ext' e4
structure GotBR (len : Nat) (l : List UInt8) (q : Bool) (xs : List Ev) (l' : List UInt8) (q' : Bool) : Prop where
  up : q' = false → q = false
  count : xs.length ≤ len
  whole : ∀ es t, PremB len l q es t → q' = false ∧ xs = es ∧ l' = t
def evC (e : Ev) : List Value := evCells e (.slice none 0 0)
theorem evC_one (e : Ev) : ∀ u ∈ evC e, u.oneCell' = true := by
  intro u hu
  simp [evC, evCells] at hu
  rcases hu with rfl | rfl | rfl | rfl | rfl | rfl <;> rfl
abbrev OwnEvs (w : World) (base : Nat) (v : Value) (xs : List Ev) : Prop := OwnW 6 evC w base 57 v xs
theorem appEvs : AppInfo Tryz.prog 23 57 6 := AppInfo.mk' (z := .agg #[.string ⟨#[]⟩, .string ⟨#[]⟩, .string ⟨#[]⟩, .int .i64 0, .int .i64 0, .slice none 0 0]) (bytes := 88) Tryz.underlying23 (by kernel_rfl) (by decide) rfl (by decide)
theorem OwnEvs.isSlice {w : World} {base : Nat} {v : Value} {l : List Ev} (h : OwnEvs w base v l) : ∃ A c, v = .slice A l.length c := by
  rcases h.2 with ⟨rfl, h0⟩ | ⟨g, cap, cur, rfl, _⟩
  · exact ⟨none, 0, by rw [h0]⟩
  · exact ⟨some ⟨g, 0, none⟩, cap, rfl⟩
theorem OwnEvs.evF {w : World} {base : Nat} {v : Value} {xs : List Ev} {D : Nat → Prop} (h : OwnEvs w base v xs) (hn : 0 < xs.length) (hf : ∀ e ∈ xs, FitEv e ∧ e.data = []) : ∃ g c, v = .slice (some ⟨g, 0, none⟩) xs.length c ∧ base ≤ g ∧ xs.length ≤ c ∧ c ≤ maxLen ∧ EvF w g xs.length (fun i => xs.getD i zeroEv) D := by
  rcases h.2 with ⟨_, h0⟩ | ⟨g, cap, cur, rfl, hb, hg, hc, hm, hs, htake⟩
  · omega
  · refine ⟨g, cap, rfl, hb, hc, hm, cur, fun _ => .slice none 0 0, hg, by rw [hs]; exact Nat.mul_le_mul hc (Nat.le_refl _), fun j hj => ?_⟩
    have hx : xs[j]? = some xs[j] := List.getElem?_eq_getElem hj
    have he : xs.getD j zeroEv = xs[j] := by rw [List.getD_eq_getElem?_getD, hx]; rfl
    simp only [he]
    obtain ⟨f1, f2⟩ := hf xs[j] (List.getElem_mem hj)
    refine ⟨f1, ⟨by rw [f2]; exact Sl.none_, by simp⟩, fun k u hu => ?_⟩
    have hk := evCells_lt hu
    have h1 := flat_get (fc := evC) (size := 6) (fun _ => rfl) xs j k xs[j] hx hk
    rw [← htake, List.getElem?_take, if_pos (by omega)] at h1
    rw [← Array.getElem?_toList, h1]
    exact hu
end Go.Proofs.YtjglmjdfndcmmaaGreat

set_option linter.all false
namespace Go.Proofs.YtjglmjdfndcmmaaGreat
def unlisted (listed : Array Bool) : Nat := (listed.toList.filter (fun b => !b)).length
theorem unlisted_list (l : List Bool) : ∀ i, l[i]? = some false → ((l.set i true).filter (fun b => !b)).length + 1 = (l.filter (fun b => !b)).length := by
  induction l with
  | nil => intro i h; simp at h
  | cons b l ih =>
    intro i h
    cases i with
    | zero => simp at h; subst h; simp
    | succ i =>
      have := ih i (by simpa using h)
      cases b
      · simp only [List.set_cons_succ, List.filter_cons, Bool.not_false, if_true, List.length_cons]; omega
      · simp only [List.set_cons_succ, List.filter_cons, Bool.not_true, Bool.false_eq_true, if_false]; omega
theorem unlisted_set {listed : Array Bool} {i : Nat} (h : listed.getD i true = false) : unlisted (listed.setIfInBounds i true) + 1 = unlisted listed := by
  have hi : i < listed.size := by
    rcases Nat.lt_or_ge i listed.size with h' | h'
    · exact h'
    · simp [Array.getElem?_eq_none h'] at h
  have hb : listed[i] = false := by simpa [hi] using h
  unfold unlisted
  rw [Array.toList_setIfInBounds]
  exact unlisted_list _ i (by simp [hi, hb])
def Act.slot (a : Act) (s : Nat) : Value := a.tmps.getD s undef
def updT (σ : Nat → Value) (d : Option Tmp) (v : Value) : Nat → Value := match d with | some d => fun s => if s = d then v else σ s | none => σ
theorem slot_put {a : Act} {d : Option Tmp} {v : Value} (h : ∀ k, d = some k → k < a.tmps.size) : Act.slot (a.put d v) = updT (Act.slot a) d v := by
  cases d with
  | none => rfl
  | some d =>
    funext s
    have hd := h d rfl
    simp only [Act.slot, Act.put, updT, Array.getD_eq_getD_getElem?, Array.getElem?_setIfInBounds]
    by_cases hs : s = d
    · subst hs; simp [hd]
    · rw [if_neg (fun e => hs e.symm), if_neg hs]
theorem size_put (a : Act) (d : Option Tmp) (v : Value) : (a.put d v).tmps.size = a.tmps.size := by cases d <;> simp [Act.put]
theorem defers_put (a : Act) (d : Option Tmp) (v : Value) : (a.put d v).defers = a.defers := by cases d <;> rfl
structure Kin (l : List Oper) (a0 a : Act) : Prop where
  size : a.tmps.size = a0.tmps.size
  defers : a.defers = a0.defers
  slots : ∀ s, (∀ o ∈ l, o.dst ≠ some s) → Act.slot a s = Act.slot a0 s
theorem Kin.refl (l : List Oper) (a : Act) : Kin l a a := ⟨rfl, rfl, fun _ _ => rfl⟩
theorem Kin.put {l : List Oper} {a0 a : Act} (h : Kin l a0 a) (hd : ∀ o ∈ l, ∀ k, o.dst = some k → k < a0.tmps.size) {o : Oper} (ho : o ∈ l) (v : Value) : Kin l a0 (a.put o.dst v) ∧ Act.slot (a.put o.dst v) = updT (Act.slot a) o.dst v := by
  have e := slot_put (a := a) (d := o.dst) (v := v) (fun k hk => by rw [h.size]; exact hd o ho k hk)
  refine ⟨⟨(size_put _ _ _).trans h.size, (defers_put _ _ _).trans h.defers, fun s hs => ?_⟩, e⟩
  rw [e, ← h.slots s hs]
  have := hs o ho
  cases hk : o.dst with
  | none => rfl
  | some d =>
    simp only [updT]
    rw [if_neg]
    intro e'
    subst e'
    exact this hk
def Up (listed : Array Bool) (j : Nat) : Prop := listed.getD j false = true
structure Shut (l : List Oper) (listed : Array Bool) : Prop where
  size : listed.size = l.length
  closed : ∀ j oj, l[j]? = some oj → Up listed j → ∀ e ∈ oj.after, Region.binds .any e = true → Up listed e.on
theorem Shut.start (l : List Oper) : Shut l (Array.replicate l.length false) :=
  ⟨by simp, fun j oj _ hl => by unfold Up at hl; rw [getD_replicate_false] at hl; cases hl⟩
theorem Shut.up {l : List Oper} {listed : Array Bool} {j i : Nat} (h : Shut l listed) (hj : Up listed j) (hw : Region.waitsFor .any l.toArray j i = true) : Up listed i := by
  obtain ⟨oj, hoj, e, he, hb, rfl⟩ := Region.waitsFor_spec hw
  exact h.closed j oj (by simpa using hoj) hj e he hb
theorem Shut.set {l : List Oper} {listed : Array Bool} {i : Nat} (h : Shut l listed) (hi : i ∈ Region.ready .any l.toArray listed) : Shut l (listed.setIfInBounds i true) := by
  obtain ⟨_, oi, hoi, hall⟩ := mem_ready.1 hi
  refine ⟨by simp [h.size], fun j oj hj hl e he hb => ?_⟩
  unfold Up at hl ⊢
  by_cases hij : i = j
  · subst hij
    have : oj = oi := Option.some.inj ((show l.toArray[i]? = some oj by simpa using hj).symm.trans hoi)
    subst this
    exact getD_set_true (hall e he hb)
  · rw [getD_set_ne false hij] at hl
    exact getD_set_true (h.closed j oj hj hl e he hb)
def Steps (P : Program) (l : List Oper) (Q : Exit → Act → World → Prop) (a0 : Act) (K : Array Bool → (Nat → Value) → World → Prop) : Nat → List Oper → Prop
  | _, [] => True
  | i, o :: rest => (∀ listed (a : Act) w, Shut l listed → i ∈ Region.ready .any l.toArray listed → Kin l a0 a → K listed (Act.slot a) w →
      o.wp P a w (fun a' w' => ∃ v, a' = a.put o.dst v ∧ K (listed.setIfInBounds i true) (updT (Act.slot a) o.dst v) w') Q) ∧ Steps P l Q a0 K (i + 1) rest
theorem Steps.at_ {P : Program} {l : List Oper} {Q : Exit → Act → World → Prop} {a0 : Act} {K : Array Bool → (Nat → Value) → World → Prop} : ∀ (m : List Oper) (k i : Nat) (o : Oper), Steps P l Q a0 K k m → m[i]? = some o →
    ∀ listed (a : Act) w, Shut l listed → (k + i) ∈ Region.ready .any l.toArray listed → Kin l a0 a → K listed (Act.slot a) w →
      o.wp P a w (fun a' w' => ∃ v, a' = a.put o.dst v ∧ K (listed.setIfInBounds (k + i) true) (updT (Act.slot a) o.dst v) w') Q := by
  intro m
  induction m with
  | nil => intro k i o _ h; simp at h
  | cons x m ih =>
    intro k i o hs h
    cases i with
    | zero => injection h with h; subst h; exact hs.1
    | succ i =>
      have := ih (k + 1) i o hs.2 (by simpa using h)
      rwa [show k + 1 + i = k + (i + 1) from by omega] at this
def dstsB (l : List Oper) (n : Nat) : Bool := l.all fun o => o.guard.isNone && match o.dst with | some k => decide (k < n) | none => true
end Go.Proofs.YtjglmjdfndcmmaaGreat

set_option linter.all false
namespace Go.Proofs.YtjglmjdfndcmmaaGreat
def TailPost (P : Program) (l : List Oper) (n : Nat) (Q : Exit → Act → World → Prop) : Exit → Act → World → Prop
  | .normal, a, w => wpList P l.toArray Q (l.drop n) a w
  | e, a, w => Q e a w
def earlyB (l : List Oper) : Bool := (List.range l.length).all fun j => match l[j]? with
  | some o => o.guard.isNone && o.after.all fun e => !Region.binds .any e || decide (e.on < j)
  | none => true
theorem early_spec {l : List Oper} (h : earlyB l = true) {j : Nat} {o : Oper} (hj : l[j]? = some o) : o.guard = none ∧ ∀ e ∈ o.after, Region.binds .any e = true → e.on < j := by
  have hlt : j < l.length := by
    rcases Nat.lt_or_ge j l.length with h' | h'
    · exact h'
    · rw [List.getElem?_eq_none h'] at hj; cases hj
  have h1 := List.all_eq_true.1 h j (List.mem_range.2 hlt)
  rw [hj] at h1
  simp only [Bool.and_eq_true, Array.all_eq_true_iff_forall_mem, Bool.or_eq_true, Bool.not_eq_true', decide_eq_true_eq] at h1
  refine ⟨Option.isNone_iff_eq_none.1 h1.1, fun e he hb => (h1.2 e he).resolve_left (by rw [hb]; simp)⟩
def tailB (l : List Oper) (n : Nat) : Bool := earlyB l && decide (n < l.length) && Region.sinkB .any l.toArray n && Region.chainB .any l.toArray n && Region.seqB .any l.toArray (l.length - n) n (Array.replicate n true ++ Array.replicate (l.length - n) false)
theorem unlisted_zero {L : Array Bool} (h : unlisted L = 0) : ∀ i, i < L.size → L.getD i false = true := by
  intro i hi
  unfold unlisted at h
  have h0 := List.eq_nil_of_length_eq_zero h
  rw [List.filter_eq_nil_iff] at h0
  have := h0 L[i] (by simp)
  simpa [hi] using this
theorem unlisted_pos {L : Array Bool} {f : Nat} (h : unlisted L = f + 1) : ∃ i, i < L.size ∧ L.getD i true = false := by
  unfold unlisted at h
  cases hl : L.toList.filter (fun b => !b) with
  | nil => rw [hl] at h; simp at h
  | cons b l =>
    have hb : b ∈ L.toList.filter (fun b => !b) := by rw [hl]; simp
    rw [List.mem_filter] at hb
    obtain ⟨i, hi, e⟩ := List.mem_iff_getElem.1 hb.1
    have hi' : i < L.size := by simpa using hi
    refine ⟨i, hi', ?_⟩
    have hbf : b = false := by simpa using hb.2
    have : L[i] = false := by rw [← hbf, ← e]; simp
    simp [hi', this]
section
variable {P : Program} {l : List Oper} {n : Nat} {Q : Exit → Act → World → Prop}
theorem first_ready (hE : earlyB l = true) {L : Array Bool} (hs : L.size = l.length) : ∀ (i : Nat), i < L.size → L.getD i true = false → ∃ j, j ≤ i ∧ j ∈ Region.ready .any l.toArray L := by
  intro i
  induction i using Nat.strongRecOn with
  | _ i ih =>
    intro hi hun
    have hi' : i < l.length := by omega
    by_cases hr : i ∈ Region.ready .any l.toArray L
    · exact ⟨i, Nat.le_refl _, hr⟩
    · have ho : l[i]? = some l[i] := List.getElem?_eq_getElem hi'
      have hsp := early_spec hE ho
      have : ∃ e ∈ l[i].after, Region.binds .any e = true ∧ L.getD e.on false = false := by
        apply Classical.byContradiction
        intro hno
        refine hr (mem_ready.2 ⟨hun, l[i], by simp, fun e he hb => ?_⟩)
        cases h : L.getD e.on false with
        | true => rfl
        | false => exact absurd ⟨e, he, hb, h⟩ hno
      obtain ⟨e, he, hb, hf⟩ := this
      have hlt := hsp.2 e he hb
      obtain ⟨j, hj, hr'⟩ := ih e.on hlt (by omega) (getD_in (by omega) hf)
      exact ⟨j, by omega, hr'⟩
theorem wpAny_tail (hE : earlyB l = true) (hs : Region.sinkB .any l.toArray n = true) (hc : Region.chainB .any l.toArray n = true) (hn : n < l.length)
    (hq : Region.seqB .any l.toArray (l.length - n) n (Array.replicate n true ++ Array.replicate (l.length - n) false) = true) :
    ∀ (f : Nat) (L' L : Array Bool) (a : Act) (w : World), L'.size = n → unlisted L' = f → HeadInv .any l.toArray n L → (∀ i b, i < n → L.getD i b = L'.getD i b) →
      wpAny P .any (l.take n).toArray (TailPost P l n Q) f L' a w → wpAny P .any l.toArray Q (f + (l.length - n)) L a w := by
  intro f
  induction f with
  | zero =>
    intro L' L a w hs' hu inv hR h
    rw [Nat.zero_add]
    have hL : L = Array.replicate n true ++ Array.replicate (l.length - n) false := by
      apply Array.ext
      · rw [inv.size]; simp; omega
      · intro i h1 h2
        rcases Nat.lt_or_ge i n with hi | hi
        · have := hR i false hi
          rw [unlisted_zero hu i (by omega)] at this
          rw [Array.getElem_append_left (by simpa using hi)]
          simpa [h1] using this
        · have := inv.tail i hi (by rw [← inv.size]; exact h1)
          rw [Array.getElem_append_right (by simpa using hi)]
          simpa [h1] using this
    have h2 : wpList P l.toArray Q (l.drop n) a w := h.2
    have := wpAny_of_seq (md := .any) (P := P) (ops := l.toArray) (Q' := Q) (l.drop n) n L a w (fun j => by simp [List.getElem?_drop]) (by rw [List.length_drop, hL]; exact hq) h2
    rwa [List.length_drop] at this
  | succ f ih =>
    intro L' L a w hs' hu inv hR h
    rw [show f + 1 + (l.length - n) = (f + (l.length - n)) + 1 by omega]
    obtain ⟨i0, hi0, hun0⟩ := unlisted_pos hu
    have hi0n : i0 < n := by omega
    have hun : L.getD i0 true = false := by rw [hR i0 true hi0n]; exact hun0
    have hnot : ∀ t, n ≤ t → t ∉ Region.ready .any l.toArray L := tail_waits hs hc (by simpa using hn) inv _ i0 rfl hi0n hun
    refine ⟨fun hr => ?_, fun i hi => ?_⟩
    · obtain ⟨j, _, hj⟩ := first_ready hE (L := L) (by simpa using inv.size) i0 (by rw [inv.size]; simp; omega) hun
      rw [hr] at hj; cases hj
    · have hin : i < n := by
        rcases Nat.lt_or_ge i n with h' | h'
        · exact h'
        · exact absurd hi (hnot i h')
      obtain ⟨hiu, o, ho, hall⟩ := mem_ready.1 hi
      have ho' : l[i]? = some o := by simpa using ho
      have hsp := early_spec hE ho'
      have hot : (l.take n).toArray[i]? = some o := by simp [hin, ho']
      have hi' : i ∈ Region.ready .any (l.take n).toArray L' := mem_ready.2 ⟨by rw [← hR i true hin]; exact hiu, o, hot, fun e he hb => by
        have h1 := hsp.2 e he hb
        rw [← hR e.on false (by omega)]
        exact hall e he hb⟩
      have h1 := h.2 i hi'
      have hw : ∀ ops : Array Oper, Region.wanted o (yielded ops a.tmps) = true := fun ops => by simp [Region.wanted, hsp.1]
      unfold wpOp at h1 ⊢
      rw [hot] at h1
      rw [ho]
      simp only [hw, if_true] at h1 ⊢
      have hstep : ∀ a' w', wpAny P .any (l.take n).toArray (TailPost P l n Q) f (L'.setIfInBounds i true) a' w' → wpAny P .any l.toArray Q (f + (l.length - n)) (L.setIfInBounds i true) a' w' := by
        intro a' w' h2
        refine ih (L'.setIfInBounds i true) (L.setIfInBounds i true) a' w' (by simpa using hs') ?_ (inv.set hi hin) ?_ h2
        · have := unlisted_set (listed := L') (i := i) (by rw [← hR i true hin]; exact hiu)
          omega
        · intro k b hk
          by_cases hik : i = k
          · subst hik
            have hiL : i < L.size := by rw [inv.size]; simp; omega
            have hiL' : i < L'.size := by omega
            simp [hiL, hiL']
          · rw [getD_set_ne b hik, getD_set_ne b hik]; exact hR k b hk
      rcases h1 with h1 | ⟨h1, a0, w0, h2⟩
      · left
        unfold Oper.wp at h1 ⊢
        generalize (execOp a.eval o).run P w = r at h1 ⊢
        cases r with
        | ok x w' =>
          cases x <;> simp only [Oper.upon] at h1 ⊢ <;>
            first
              | exact hstep _ _ h1
              | exact Calls.mono h1 (fun e w'' he => by cases e <;> first | exact hstep _ _ he | exact he)
              | exact Rows.mono h1 (fun _ _ he => hstep _ _ he)
        | halt x w' => cases x <;> simp only [Oper.upon] at h1 ⊢ <;> exact h1
      · exact .inr ⟨h1, a0, w0, h2⟩
theorem wp_region_held_tail {id : Nat} {a : Act} {w : World} (n : Nat) (S : World → Prop) (hm : P.follows .mixedOrders = true) (hB : tailB l n = true) (hS : S w.drew)
    (h : S w.drew → wpAnyH P .any (l.take n).toArray (TailPost P l n Q) S n (Array.replicate n false) a w.drew) : (Code.region id l.toArray true).wp P Q a w := by
  unfold tailB at hB
  simp only [Bool.and_eq_true, decide_eq_true_eq] at hB
  obtain ⟨⟨⟨⟨h1, h2⟩, h3⟩, h4⟩, h5⟩ := hB
  refine wp_region_any hm ?_
  have inv0 : HeadInv .any l.toArray n (Array.replicate l.toArray.size false) :=
    ⟨by simp, fun j oj _ hl => (by rw [getD_replicate_false] at hl; cases hl), fun t _ ht => getD_in (by simpa using ht) (getD_replicate_false _ _)⟩
  have hu : unlisted (Array.replicate n false) = n := by unfold unlisted; simp
  have := wpAny_tail (P := P) (Q := Q) h1 h3 h4 h2 h5 n (Array.replicate n false) _ a w.drew (by simp) hu inv0 (fun i b hi => by
    have h' : i < l.length := by omega
    simp [hi, h']) (wpAny_of_held _ _ _ _ (h hS))
  rw [show n + (l.length - n) = l.toArray.size by simp; omega] at this
  exact this
theorem takeL {S : World → Prop} {a : Act} {w : World} {v : Value} {oi : Oper} {fuel : Nat} {listed : Array Bool} (i : Nat) (hi : l[i]? = some oi) (hs : Region.noSelect l.toArray = true) (hf : Region.free .any l.toArray listed i = true)
    (hr : (Region.ready .any l.toArray listed).contains i = true) (hQ : ∀ c a w, Q (.panic c) (a.put oi.dst v) w → Q (.panic c) a w) (hg : oi.guard = none) (hy : ∀ W, S W → (execOp a.eval oi).run P W = .ok (.value v) W) (hS : S w)
    (h : wpAnyH P .any l.toArray Q S fuel (listed.setIfInBounds i true) (a.put oi.dst v) w) : wpAnyH P .any l.toArray Q S (fuel + 1) listed a w :=
  wpAnyH_take (by simpa using hi) hs hf hr hQ (.inl ⟨by simp [Region.wanted, hg], hy⟩) hS h
theorem onlyL {S : World → Prop} {a : Act} {w : World} {oi : Oper} {fuel : Nat} {listed : Array Bool} (i : Nat) (hi : l[i]? = some oi) (hg : oi.guard = none) (hr : Region.ready .any l.toArray listed = [i])
    (h : ∀ K' : Act → World → Prop, Go.Shut (∀ a w, S w → (S w → wpAnyH P .any l.toArray Q S fuel (listed.setIfInBounds i true) a w) → K' a w) → Oper.wp P oi a w K' Q) : wpAnyH P .any l.toArray Q S (fuel + 1) listed a w := by
  refine wpAnyH_ready hr (by simp) (AllReadyH.cons (by simpa using hi) (fun K' hK => ?_) AllReadyH.nil)
  rw [if_pos (by simp [Region.wanted, hg])]
  exact h K' hK
theorem doneL {S : World → Prop} {a : Act} {w : World} {l' : List Oper} {n fuel : Nat} {listed : Array Bool} (hr : Region.ready .any l'.toArray listed = []) (h : wpList P l.toArray Q (l.drop n) a w) : wpAnyH P .any l'.toArray (TailPost P l n Q) S fuel listed a w :=
  wpAnyH_done hr h fuel
end
end Go.Proofs.YtjglmjdfndcmmaaGreat
