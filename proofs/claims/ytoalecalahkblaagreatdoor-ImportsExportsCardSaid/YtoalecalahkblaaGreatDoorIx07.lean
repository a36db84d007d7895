/- Texts of this seat, merged. -/
import Derived.Lib.OwnBridge
import Derived.Outline
import Derived.Shelf.SlSortCmp.WholeK
import Derived.Shelf.SlSortCmp.NoneTotal
import Derived.Shelf.SlSortCmp.InsertionK
import Derived.Ground.SlsfProg
import Derived.Test.YtoalecalahkblaaGreatDoorProg
import Derived.Sort.LotA
import Derived.Sort.WalkA
import Derived.Test.YtoalecalahkblaaGreatDoorIx01
import Derived.Test.YtoalecalahkblaaGreatDoorIx02
import Derived.Test.YtoalecalahkblaaGreatDoorIx03
import Derived.Test.YtoalecalahkblaaGreatDoorIx04
import Derived.Test.YtoalecalahkblaaGreatDoorIx06
set_option linter.all false
set_option linter.all false
namespace Go.Proofs.YtoalecalahkblaaGreatDoor
open Go.RowKit
theorem enters_hvF : ∀ args w, (callFunc 84 args).run Tryz.prog w = .ok (.enter 84 args) w := enters_of Tryz.func84 (by kernel_rfl) rfl
theorem enters_hvE : ∀ args w, (callFunc 82 args).run Tryz.prog w = .ok (.enter 82 args) w := enters_of Tryz.func82 (by kernel_rfl) rfl
theorem hvFs_any (v : Value) (ts : List Fld) (w : World) (ht : SlFl (Lt w.heap.size) w v ts) :
    Calls Tryz.prog 83 #[v, .func (.func 84) #[] #[]] w fun e w' => e = .returned (.bool (ts.any hvF)) ∧ Below w.heap.size w w' := by
  have HC := Lib.hid (idxFld 84 #[] enters_hvF v ts hvF w ht (fun x W _ _ => hvF_any x W))
  have HZ := Lib.hid (firstF_any hvF ts)
  generalize firstF hvF ts = z at *
  obtain ⟨A, c, rfl, h1, h2, _⟩ := ht.open_
  clear ht
  go_enter Tryz.func83, Tryz.ntmps83
  go_wp2_with fail
  (with_reducible refine HC.out.mono ?_)
  rintro e w' ⟨rfl, hb'⟩
  go_wp2_with fail
  go_ret
  exact ⟨by rw [← HZ.out]; rfl, hb'⟩
set_option maxHeartbeats 2000000 in
theorem hvE_any (e : Ev) (dv : Value) (w : World) (hd : SlFl (Lt w.heap.size) w dv e.data) : Calls Tryz.prog 82 #[.agg #[.string e.cas, .string e.act, .string e.res, .int .i64 e.life, .int .i64 e.time, dv]] w fun x w' => x = .returned (.bool (hvE e)) ∧ Below w.heap.size w w' := by
  have HE : Hid (hvE e = ((((decide ((100 : Int) < (e.cas.size : Int)) || decide ((100 : Int) < (e.act.size : Int))) || decide ((100 : Int) < (e.res.size : Int))) || decide ((20 : Int) < (e.data.length : Int))) || e.data.any hvF)) := by
    show _ = _
    unfold hvE
    rw [sizeI, sizeI, sizeI, sizeI]; rfl
  obtain ⟨A, c, rfl, h1, h2, hd⟩ := hd.open_
  have hB := Blk.new w 69 #[.string e.cas, .string e.act, .string e.res, .int .i64 e.life, .int .i64 e.time, .slice A e.data.length c]
  have hb := bone w (.cells #[.string e.cas, .string e.act, .string e.res, .int .i64 e.life, .int .i64 e.time, .slice A e.data.length c] 69)
  have HFS := Lib.hid (hvFs_any _ e.data _ (hd.now hb))
  have HB := Lib.hid hb
  obtain ⟨c0, c1, c2, c3, c4, c5⟩ := hB.c6
  obtain ⟨q1, hq1⟩ : ∃ q, decide ((100 : Int) < (e.cas.size : Int)) = q := ⟨_, rfl⟩
  obtain ⟨q2, hq2⟩ : ∃ q, decide ((100 : Int) < (e.act.size : Int)) = q := ⟨_, rfl⟩
  obtain ⟨q3, hq3⟩ : ∃ q, decide ((100 : Int) < (e.res.size : Int)) = q := ⟨_, rfl⟩
  obtain ⟨q4, hq4⟩ : ∃ q, decide ((20 : Int) < (e.data.length : Int)) = q := ⟨_, rfl⟩
  obtain ⟨q5, hq5⟩ : ∃ q, e.data.any hvF = q := ⟨_, rfl⟩
  rw [hq1, hq2, hq3, hq4, hq5] at HE
  rw [hq5] at HFS
  clear hB hb hd hq5
  cases q1
  · cases q2
    · cases q3
      · cases q4
        · go_enter Tryz.func82, Tryz.ntmps82
          go_wp2_with fail
          (with_reducible refine HFS.out.mono ?_)
          rintro _ w1 ⟨rfl, hb1⟩
          have HB1 := Lib.hid (bthen HB.out hb1)
          clear hb1
          go_wp2_with fail
          go_ret
          exact ⟨ret_bool (by rw [HE.out]; rfl), HB1.out⟩
        · go_enter Tryz.func82, Tryz.ntmps82
          go_wp2_with fail
          go_ret
          exact ⟨ret_bool (by rw [HE.out]; rfl), HB.out⟩
      · go_enter Tryz.func82, Tryz.ntmps82
        go_wp2_with fail
        go_ret
        exact ⟨ret_bool (by rw [HE.out]; rfl), HB.out⟩
    · go_enter Tryz.func82, Tryz.ntmps82
      go_wp2_with fail
      go_ret
      exact ⟨ret_bool (by rw [HE.out]; rfl), HB.out⟩
  · go_enter Tryz.func82, Tryz.ntmps82
    go_wp2_with fail
    go_ret
    exact ⟨ret_bool (by rw [HE.out]; rfl), HB.out⟩
set_option maxHeartbeats 1000000 in
theorem idxEv (k : FuncId) (cb : Array Value) (eg : ∀ args w, (callFunc k args).run Tryz.prog w = .ok (.enter k args) w) (tv : Value) (ts : List Ev) (p : Ev → Bool) (w : World) (ht : SlEv (Lt w.heap.size) w tv ts)
    (hf : ∀ (x : Ev) (dv : Value) (W : World), x ∈ ts → SlFl (Lt W.heap.size) W dv x.data → Below w.heap.size w W → Calls Tryz.prog k (#[.agg #[.string x.cas, .string x.act, .string x.res, .int .i64 x.life, .int .i64 x.time, dv]] ++ cb) W fun e w' => e = .returned (.bool (p x)) ∧ Below W.heap.size W w') :
    Calls Tryz.prog 126 #[tv, .func (.func k) #[] cb] w fun e w' => e = .returned (.int .i64 (firstF p ts)) ∧ Below w.heap.size w w' := by
  obtain ⟨A, c, rfl, h1, h2, ht⟩ := ht.open_
  have HF := Lib.hid hf
  have HT := Lib.hid ht
  clear hf ht
  go_enter Tryz.func126, Tryz.ntmps126
  go_wp2_with fail
  go_loopw [8] (fun i wr => ∃ j : Nat, j ≤ ts.length ∧ i = .int .i64 j ∧ Hid (∀ (q : Nat) t, q < j → ts[q]? = some t → p t = false) ∧ Hid (Below w.heap.size w wr)) (fun i _ => ts.length - (intOf i).toNat)
  case atStart => exact ⟨0, Nat.zero_le _, rfl, Lib.hid (fun q _ h => absurd h (by omega)), Lib.hid (Below.refl _ _)⟩
  case round =>
    obtain ⟨j, hj, rfl, HP, HB⟩ := hrel
    by_cases hlt : j < ts.length
    · obtain ⟨b, o, t, dv, rfl, hD, hx, _, hdv, r0, r1, r2, r3, r4, r5⟩ := SlEv.at_ HT.out hlt
      obtain ⟨Ad, cd, rfl, _, _, hdv⟩ := hdv.open_
      have c0 := (HB.out.cell (p := ⟨b, o + j * 6, none⟩) hD).trans r0
      have c1 := (HB.out.cell (p := ⟨b, o + j * 6 + 1, none⟩) hD).trans r1
      have c2 := (HB.out.cell (p := ⟨b, o + j * 6 + 2, none⟩) hD).trans r2
      have c3 := (HB.out.cell (p := ⟨b, o + j * 6 + 3, none⟩) hD).trans r3
      have c4 := (HB.out.cell (p := ⟨b, o + j * 6 + 4, none⟩) hD).trans r4
      have c5 := (HB.out.cell (p := ⟨b, o + j * 6 + 5, none⟩) hD).trans r5
      have hcall := HF.out t _ wr (List.mem_of_getElem? hx) (hdv.now HB.out) HB.out
      have HX := Lib.hid hx
      clear hx hdv r0 r1 r2 r3 r4 r5
      generalize hq : p t = q' at *
      have HQ := Lib.hid hq
      have HC := Lib.hid hcall
      clear hcall hq
      cases q'
      · go_wp2_with (go_at_fn k; (with_reducible refine HC.out.mono ?_); rintro e w' ⟨rfl, hb'⟩; have HB' := Lib.hid (bthen HB.out hb'); clear hb')
        go_roundw
        case rel =>
          refine ⟨j + 1, by omega, by go_num, Lib.hid (fun q y hq hy => ?_), HB'⟩
          by_cases e : q = j
          · subst e; rw [HX.out] at hy; injection hy with hy; subst hy; exact HQ.out
          · exact HP.out q y (by omega) hy
        case measure => simp [intOf]; omega
      · go_wp2_with (go_at_fn k; (with_reducible refine HC.out.mono ?_); rintro e w' ⟨rfl, hb'⟩; have HB' := Lib.hid (bthen HB.out hb'); clear hb')
        go_ret
        exact ⟨ret_int (firstF_hit HX.out HQ.out HP.out).symm, HB'.out⟩
    · go_wp2_with fail
      go_ret
      exact ⟨ret_int (firstF_miss (fun q y hq hy => HP.out q y (by omega) hy)).symm, HB.out⟩
theorem hvEs_any (v : Value) (ts : List Ev) (w : World) (ht : SlEv (Lt w.heap.size) w v ts) :
    Calls Tryz.prog 81 #[v, .func (.func 82) #[] #[]] w fun e w' => e = .returned (.bool (ts.any hvE)) ∧ Below w.heap.size w w' := by
  have HC := Lib.hid (idxEv 82 #[] enters_hvE v ts hvE w ht (fun x dv W _ hd _ => hvE_any x dv W hd))
  have HZ := Lib.hid (firstF_any hvE ts)
  generalize firstF hvE ts = z at *
  obtain ⟨A, c, rfl, h1, h2, _⟩ := ht.open_
  clear ht
  go_enter Tryz.func81, Tryz.ntmps81
  go_wp2_with fail
  (with_reducible refine HC.out.mono ?_)
  rintro e w' ⟨rfl, hb'⟩
  go_wp2_with fail
  go_ret
  exact ⟨by rw [← HZ.out]; rfl, hb'⟩
end Go.Proofs.YtoalecalahkblaaGreatDoor

set_option linter.all false
namespace Go.Proofs.YtoalecalahkblaaGreatDoor
open Go.RowKit
set_option maxHeartbeats 1000000 in
theorem heavy_any (u : Value) (l : List Ev) (w : World) (h : IsLog (Lt w.heap.size) w u l) :
    Calls Tryz.prog 33 #[u] w fun e w' => e = .returned (.bool (heavyB l)) ∧ Below w.heap.size w w' := by
  obtain ⟨ev, rfl, hs⟩ := h
  have HE : Hid (heavyB l = (((decide ((40 : Int) < (l.length : Int)) && decide ((l.length : Int) ≤ 2000)) || decide ((3000 : Int) < (l.length : Int))) || l.any hvE)) := by
    show _ = _
    unfold heavyB
    rw [sizeI, sizeI, show decide (l.length ≤ 2000) = decide ((l.length : Int) ≤ 2000) from decide_eq_decide.2 (by omega)]; rfl
  obtain ⟨A, c, rfl, h1, h2, hs⟩ := hs.open_
  have hB := Blk.new w 38 #[.slice A l.length c]
  have hb := bone w (.cells #[.slice A l.length c] 38)
  have HES := Lib.hid (hvEs_any _ l _ (hs.now hb))
  have HB := Lib.hid hb
  have c0 := hB.c1
  obtain ⟨q1, hq1⟩ : ∃ q, decide ((40 : Int) < (l.length : Int)) = q := ⟨_, rfl⟩
  obtain ⟨q2, hq2⟩ : ∃ q, decide ((l.length : Int) ≤ 2000) = q := ⟨_, rfl⟩
  obtain ⟨q3, hq3⟩ : ∃ q, decide ((3000 : Int) < (l.length : Int)) = q := ⟨_, rfl⟩
  obtain ⟨q4, hq4⟩ : ∃ q, l.any hvE = q := ⟨_, rfl⟩
  rw [hq1, hq2, hq3, hq4] at HE
  rw [hq4] at HES
  clear hB hb hs hq4
  cases q1 <;> cases q2 <;> cases q3 <;>
  · go_enter Tryz.func33, Tryz.ntmps33
    first
      | (go_wp2_with fail; go_ret; exact ⟨ret_bool (by rw [HE.out]; rfl), HB.out⟩)
      | (go_wp2_with fail
         (with_reducible refine HES.out.mono ?_)
         rintro _ w1 ⟨rfl, hb1⟩
         have HB1 := Lib.hid (bthen HB.out hb1)
         clear hb1
         go_wp2_with fail
         go_ret
         exact ⟨ret_bool (by rw [HE.out]; rfl), HB1.out⟩)
end Go.Proofs.YtoalecalahkblaaGreatDoor

set_option linter.all false
namespace Go.Proofs.YtoalecalahkblaaGreatDoor
open Go.RowKit
def greatB (m : Mp) : Bool := decide (30 < m.data.length) || decide (30 < m.kinds.length)
theorem great_any (u : Value) (m : Mp) (w : World) (h : IsMp (Lt w.heap.size) w u m) :
    Calls Tryz.prog 15 #[u] w fun e w' => e = .returned (.bool (greatB m)) ∧ Below w.heap.size w w' := by
  obtain ⟨dv, kv, rfl, _, hd, hk⟩ := h
  obtain ⟨Ad, cd, rfl, _, _, _⟩ := hd.open_
  obtain ⟨Ak, ck, rfl, _, _, _⟩ := hk.open_
  unfold mpV
  obtain ⟨z, hz⟩ : ∃ z, (m.sep.toNat : Int) = z := ⟨_, rfl⟩
  rw [hz]
  have hb := bone w (.cells #[.int .i64 m.cas, .int .i64 m.act, .int .i64 m.res, .int .i64 m.life, .int .i64 m.time, .slice Ad m.data.length cd, .slice Ak m.kinds.length ck, .int .u8 z] 33)
  have hB := Blk.new w 33 #[.int .i64 m.cas, .int .i64 m.act, .int .i64 m.res, .int .i64 m.life, .int .i64 m.time, .slice Ad m.data.length cd, .slice Ak m.kinds.length ck, .int .u8 z]
  have HB := Lib.hid hb
  have HE : Hid (greatB m = (decide ((30 : Int) < (m.data.length : Int)) || decide ((30 : Int) < (m.kinds.length : Int)))) := by
    show _ = _
    unfold greatB
    congr 1
    · exact decide_eq_decide.2 (by omega)
    · exact decide_eq_decide.2 (by omega)
  obtain ⟨q1, hq1⟩ : ∃ q1, decide ((30 : Int) < (m.data.length : Int)) = q1 := ⟨_, rfl⟩
  obtain ⟨q2, hq2⟩ : ∃ q2, decide ((30 : Int) < (m.kinds.length : Int)) = q2 := ⟨_, rfl⟩
  rw [hq1, hq2] at HE
  obtain ⟨c0, c1, c2, c3, c4, c5, c6, c7⟩ := hB.c8m
  clear hd hk hz hb hB
  go_enter Tryz.func15, Tryz.ntmps15
  cases q1
  · go_wp2_with fail
    go_ret
    exact ⟨ret_bool (by rw [HE.out]; rfl), HB.out⟩
  · go_wp2_with fail
    go_ret
    exact ⟨ret_bool (by rw [HE.out]; rfl), HB.out⟩
end Go.Proofs.YtoalecalahkblaaGreatDoor

set_option linter.all false
namespace Go.Proofs.YtoalecalahkblaaGreatDoor
open Go.RowKit
def xwCase : Bt := [99, 97, 115, 101]
def xwAct : Bt := [97, 99, 116, 105, 118, 105, 116, 121]
def xwTime : Bt := [116, 105, 109, 101]
def xwRes : Bt := [114, 101, 115, 111, 117, 114, 99, 101]
def xwLife : Bt := [108, 105, 102, 101]
def startH (m : Mp) (width : Nat) : List Bt := setZ (setZ (setZ (List.replicate width []) m.cas xwCase) m.act xwAct) m.time xwTime
def resH (m : Mp) (r : List Bt) : List Bt := if 0 ≤ m.res then setZ r m.res xwRes else r
def lifeH (m : Mp) (r : List Bt) : List Bt := if 0 ≤ m.life then setZ r m.life xwLife else r
def zipH (ps : List (Int × Bs)) (r : List Bt) : List Bt := ps.foldl (fun r p => setZ r p.1 p.2) r
theorem headX_eq (names : List Bs) (m : Mp) (width : Nat) : headX names m width = zipH (m.data.zip names) (lifeH m (resH m (startH m width))) := rfl
theorem zipH_len : ∀ (ps : List (Int × Bs)) (r : List Bt), (zipH ps r).length = r.length
  | [], r => rfl
  | p :: ps, r => by
    show (zipH ps (setZ r p.1 p.2)).length = _
    rw [zipH_len ps, setZ_len]
theorem zipH_le : ∀ (ps : List (Int × Bs)) (r : List Bt), (∀ p ∈ ps, p.2.length ≤ 1000000) → CLe r → CLe (zipH ps r)
  | [], r, _, h => h
  | p :: ps, r, hp, h => zipH_le ps _ (fun q hq => hp q (by simp [hq])) (h.setZ _ (hp p (by simp)))
theorem zipH_step {d : List Int} {names : List Bs} {i : Nat} {k : Int} {s : Bs} {r : List Bt} (hk : d[i]? = some k) (hs : names[i]? = some s) : zipH ((d.zip names).drop i) r = zipH ((d.zip names).drop (i + 1)) (setZ r k s) := by
  have h : (d.zip names)[i]? = some (k, s) := by rw [List.getElem?_zip_eq_some]; exact ⟨hk, hs⟩
  rw [drop_cons h]
  rfl
theorem headX_len {names : List Bs} {m : Mp} {width : Nat} : (headX names m width).length = width := by
  rw [headX_eq, zipH_len]
  unfold lifeH resH startH
  split <;> split <;> simp [setZ_len]
theorem headX_le {names : List Bs} {m : Mp} {width : Nat} (h : ∀ s ∈ names, s.length ≤ 1000000) : CLe (headX names m width) := by
  rw [headX_eq]
  have hst : CLe (startH m width) := (((cle_none width).setZ _ (by decide)).setZ _ (by decide)).setZ _ (by decide)
  have hre : CLe (resH m (startH m width)) := by
    unfold resH
    split
    · exact hst.setZ _ (by decide)
    · exact hst
  have hli : CLe (lifeH m (resH m (startH m width))) := by
    unfold lifeH
    split
    · exact hre.setZ _ (by decide)
    · exact hre
  exact zipH_le _ _ (fun p hp => h _ (List.of_mem_zip hp).2) hli
theorem names_mem {l : List Ev} {e : Ev} (he : e ∈ l) {f : Fld} (hf : f ∈ e.data) : nmOf f ∈ colsL l := by
  unfold colsL
  rw [setB_mem]
  unfold namesTo
  rw [List.take_of_length_le (Nat.le_refl _)]
  exact List.mem_flatMap.2 ⟨e, he, List.mem_map.2 ⟨f, hf, rfl⟩⟩
theorem names_le {l : List Ev} (h : logB l = true) : ∀ s ∈ colsL l, s.length ≤ 40 := by
  intro s hs
  unfold colsL at hs
  rw [setB_mem] at hs
  unfold namesTo at hs
  rw [List.take_of_length_le (Nat.le_refl _)] at hs
  obtain ⟨e, he, hs⟩ := List.mem_flatMap.1 hs
  obtain ⟨f, hf, rfl⟩ := List.mem_map.1 hs
  obtain ⟨i, hi⟩ := List.mem_iff_getElem?.1 he
  have := (evLe (logB_ev h hi)).flds f hf
  unfold fldB at this
  rw [Bool.and_eq_true] at this
  have := name_le this.1
  unfold nmOf
  rw [Array.length_toList]
  exact this
theorem fitN_of {l : List Ev} (h : logB l = true) : FitN l := by
  intro e he f hf
  have := names_le h _ (names_mem he hf)
  unfold nmOf at this
  rw [Array.length_toList] at this
  have h2 : f.nm.data.size = f.nm.size := rfl
  unfold maxLen; omega
theorem data_le {e : Ev} (h : evB e = true) : e.data.length ≤ 8 := by
  unfold evB at h
  simp only [Bool.and_eq_true, decide_eq_true_eq] at h
  exact h.1.2
theorem few_of {l : List Ev} (h : logB l = true) (hh : heavyB l = false) : l.length ≤ 40 := by
  unfold heavyB at hh
  simp only [Bool.or_eq_false_iff, Bool.and_eq_false_iff, decide_eq_false_iff_not] at hh
  unfold logB at h
  rw [Bool.and_eq_true] at h
  have := of_decide_eq_true h.1
  omega
theorem flatM_le {α β : Type} (f : α → List β) (k : Nat) : ∀ l : List α, (∀ x ∈ l, (f x).length ≤ k) → (l.flatMap f).length ≤ l.length * k
  | [], _ => by simp
  | x :: l, h => by
    rw [List.flatMap_cons, List.length_append, List.length_cons, Nat.add_mul]
    have h1 := h x (by simp)
    have h2 := flatM_le f k l fun y hy => h y (by simp [hy])
    omega
theorem namesTo_le1000 {l : List Ev} (h : logB l = true) (hh : heavyB l = false) : (namesTo l l.length).length ≤ 1000 := by
  have h1 := few_of h hh
  unfold namesTo
  rw [List.take_of_length_le (Nat.le_refl _)]
  have h2 := flatM_le namesE 8 l fun e he => by
    obtain ⟨i, hi⟩ := List.mem_iff_getElem?.1 he
    unfold namesE
    rw [List.length_map]
    exact data_le (logB_ev h hi)
  omega
def RowsOk (wd : Nat) (acc : List (List Bt)) : Prop := ∀ r ∈ acc, r.length = wd ∧ CLe r
theorem RowsOk.push {wd : Nat} {acc : List (List Bt)} (h : RowsOk wd acc) {r : List Bt} (hl : r.length = wd) (hc : CLe r) : RowsOk wd (acc ++ [r]) := by
  intro x hx
  rcases List.mem_append.1 hx with hx | hx
  · exact h x hx
  · rw [List.mem_singleton] at hx; rw [hx]; exact ⟨hl, hc⟩
end Go.Proofs.YtoalecalahkblaaGreatDoor

set_option linter.all false
namespace Go.Proofs.YtoalecalahkblaaGreatDoor
open Go.RowKit
theorem own_mono {w : World} {base base' e size n : Nat} {v : Value} {xs : List Value} (h : w.ownsRow base e size v n xs) (hb : base' ≤ base) : w.ownsRow base' e size v n xs := by
  refine ⟨h.1, ?_⟩
  rcases h.2 with h' | ⟨g', c', cur, e, h1, h2⟩
  · exact .inl h'
  · exact .inr ⟨g', c', cur, e, Nat.le_trans hb h1, h2⟩
theorem delete_own (m : Mp) (w : World) :
    Calls Tryz.prog 121 #[.slice (some ⟨w.heap.size, 0, none⟩) 5 5, .func (.func 122) #[] #[]] (w.alloc (.cells #[.int .i64 m.cas, .int .i64 m.act, .int .i64 m.res, .int .i64 m.life, .int .i64 m.time] 3))
      fun e w' => ∃ v, e = .returned v ∧ OwnZ w' w.heap.size v (fieldsB m) ∧ Below w.heap.size w w' := by
  have hB := Blk.new w 3 #[.int .i64 m.cas, .int .i64 m.act, .int .i64 m.res, .int .i64 m.life, .int .i64 m.time]
  have hb := bone w (.cells #[.int .i64 m.cas, .int .i64 m.act, .int .i64 m.res, .int .i64 m.life, .int .i64 m.time] 3)
  have hown := World.ownsRow_lit (base := w.heap.size) (e := 3) (size := 1) w #[.int .i64 m.cas, .int .i64 m.act, .int .i64 m.res, .int .i64 m.life, .int .i64 m.time] 5 (Nat.le_refl _) (by decide) rfl
  obtain ⟨w1, hw1⟩ : ∃ w1, w.alloc (.cells #[.int .i64 m.cas, .int .i64 m.act, .int .i64 m.res, .int .i64 m.life, .int .i64 m.time] 3) = w1 := ⟨_, rfl⟩
  rw [hw1] at hB hb hown ⊢
  clear hw1
  obtain ⟨g, hg⟩ : ∃ g, w.heap.size = g := ⟨_, rfl⟩
  rw [hg] at hB hb hown ⊢
  have hpred : Go.Proofs.PredAt Tryz.prog 122 #[] (Value.int .i64) (fun k => decide (k < 0)) w1 := fun W x _ => (neg_any x W).mono fun e w' ⟨h1, h2⟩ => ⟨h1, 0, h2.symm⟩
  have hover : Go.Proofs.PredOver Tryz.prog 122 #[] (Value.int .i64) (fun k => decide (k < 0)) g 0 5 w1 := fun n os dk x _ => (neg_any x _).mono fun e w' ⟨h1, h2⟩ => ⟨h1, 0, h2.symm⟩
  have hH : Go.Sort.Holds (Value.int .i64) w1 g 0 #[m.cas, m.act, m.res, m.life, m.time] := by
    intro j hj
    refine ⟨?_, hB.frozen _⟩
    have hc := hB.cell (0 + j)
    rw [hc]
    match j, hj with
    | 0, _ => rfl
    | 1, _ => rfl
    | 2, _ => rfl
    | 3, _ => rfl
    | 4, _ => rfl
  have h := Tryz.slices_DeleteFunc (Value.int .i64) (fun _ => rfl) (fun k => decide (k < 0)) 122 #[] enters_neg 0 Tryz.zeroValue3 g 0 5 #[m.cas, m.act, m.res, m.life, m.time] w1 hpred hover hH (by simp) (by simp)
  have hfl : (#[m.cas, m.act, m.res, m.life, m.time].toList.filter fun x => !decide (x < 0)) = fieldsB m := fields_filter m
  rw [hfl] at h
  have hlen := fieldsB_len m
  refine Calls.mono h fun e w' ⟨he, q, hw⟩ => ?_
  have hl : (fieldsB m ++ List.replicate (#[m.cas, m.act, m.res, m.life, m.time].size - (fieldsB m).length) (0 : Int)).length = 5 := by
    simp
    omega
  have ho := Lib.ownsRow_putRow (enc := Value.int .i64) (q := q) (k := (fieldsB m).length) (zs := [m.cas, m.act, m.res, m.life, m.time]) (ys := fieldsB m ++ List.replicate (#[m.cas, m.act, m.res, m.life, m.time].size - (fieldsB m).length) 0) hown hl hlen
  have hbw := Lib.below_putRow (enc := Value.int .i64) (q := q) (d := (fieldsB m ++ List.replicate (#[m.cas, m.act, m.res, m.life, m.time].size - (fieldsB m).length) (0 : Int)).toArray) hb (Nat.le_refl g)
  rw [List.take_left' rfl] at ho
  rw [← hw] at ho hbw
  exact ⟨_, he, ho, hbw⟩
set_option maxHeartbeats 2000000 in
theorem fields_own (u : Value) (m : Mp) (w : World) (h : IsMp (Lt w.heap.size) w u m) :
    Calls Tryz.prog 75 #[u] w fun e w' => ∃ v, e = .returned v ∧ OwnZ w' w.heap.size v (fieldsB m) ∧ Below w.heap.size w w' := by
  obtain ⟨dv, kv, rfl, hfm, hd, hk⟩ := h
  have HD := Lib.hid (delete_own m)
  obtain ⟨Ad, cd, rfl, _, _, hd⟩ := hd.open_
  obtain ⟨Ak, ck, rfl, _, _, hk⟩ := hk.open_
  obtain ⟨z, hz⟩ : ∃ z, (m.sep.toNat : Int) = z := ⟨_, rfl⟩
  unfold mpV
  rw [hz]
  clear hfm hd hk hz
  have HB1 := Lib.hid (bone w (.cells #[.int .i64 m.cas, .int .i64 m.act, .int .i64 m.res, .int .i64 m.life, .int .i64 m.time, .slice Ad m.data.length cd, .slice Ak m.kinds.length ck, .int .u8 z] 33))
  have HM1 := Lib.hid (Blk.new w 33 #[.int .i64 m.cas, .int .i64 m.act, .int .i64 m.res, .int .i64 m.life, .int .i64 m.time, .slice Ad m.data.length cd, .slice Ak m.kinds.length ck, .int .u8 z])
  go_enter Tryz.func75, Tryz.ntmps75
  go_upto_region 1 with fail
  obtain ⟨w1, hw1⟩ : ∃ w1, w.alloc (.cells #[.int .i64 m.cas, .int .i64 m.act, .int .i64 m.res, .int .i64 m.life, .int .i64 m.time, .slice Ad m.data.length cd, .slice Ak m.kinds.length ck, .int .u8 z] 33) = w1 := ⟨_, rfl⟩
  rw [hw1] at HB1 HM1 ⊢
  clear hw1
  obtain ⟨c0, c1, c2, c3, c4, c5, c6, c7⟩ := HM1.out.c8m
  have HDW := Lib.hid (HD.out w1)
  clear HD
  go_wp2_with fail
  (with_reducible refine HDW.out.mono ?_)
  rintro _ w2 ⟨v, rfl, ho, hb⟩
  have HO := Lib.hid ho
  have HB2 := Lib.hid (bthen HB1.out hb)
  have HS1 : Hid (w.heap.size ≤ w1.heap.size) := HB1.out.size
  clear ho hb
  go_wp2_with fail
  go_ret
  exact ⟨_, rfl, own_mono HO.out HS1.out, HB2.out⟩
theorem max_any (v : Value) (base : Nat) (zs : List Int) (w : World) (h : OwnZ w base v zs) (hn : 0 < zs.length) (hb : zs.length ≤ 1000) : Calls Tryz.prog 87 #[v] w fun e w' => e = .returned (.int .i64 (Lib.maxOf zs)) ∧ w' = w := by
  rcases h.2 with ⟨_, h0⟩ | ⟨g, cap, cur, rfl, hbase, hg, hc, hm, hs, ht⟩
  · omega
  · have hcell : ∀ j, j < zs.length → w.cell? ⟨g, 0 + j, none⟩ = some (.int .i64 (zs.getD j 0)) := by
      intro j hj
      rw [Nat.zero_add, World.ownsRow.cellAt h j (by simpa using hj)]
      simp [hj]
    have := Tryz.slices_Max_int g 0 zs.length cap zs w hn (Nat.le_refl _) (by omega) hcell
    rw [List.take_of_length_le (Nat.le_refl _)] at this
    exact this
end Go.Proofs.YtoalecalahkblaaGreatDoor

set_option linter.all false
namespace Go.Proofs.YtoalecalahkblaaGreatDoor
open Go.RowKit
set_option maxHeartbeats 4000000 in
set_option maxRecDepth 100000 in
theorem header_none (r : List Bt) (rv u : Value) (m : Mp) (w : World) (hr : SlP (Lt w.heap.size) w rv r) (h : IsMp (Lt w.heap.size) w u m) (hd0 : m.data = []) (hcol : ∀ k ∈ fieldsB m, k < (r.length : Int)) :
    Calls Tryz.prog 53 #[rv, u] w fun e w' => e = .returned (.tuple #[.agg #[.int .i64 0, .int .i64 0], .int .i64 0]) ∧ Below w.heap.size w w' := by
  obtain ⟨Ar, cr, rfl, _, _, hr⟩ := hr.open_
  have HF := Lib.hid (fun W hW => fields_any u m W hW)
  have HM := Lib.hid h
  have HCOL := Lib.hid hcol
  obtain ⟨dv, kv, rfl, hfm, hd, hk⟩ := h
  obtain ⟨Ad, cd, rfl, _, _, hd⟩ := hd.open_
  obtain ⟨Ak, ck, rfl, _, _, hk⟩ := hk.open_
  have hdl : m.data.length = 0 := by rw [hd0]; rfl
  rw [hdl] at HM HF ⊢
  obtain ⟨z, hz⟩ : ∃ z, (m.sep.toNat : Int) = z := ⟨_, rfl⟩
  unfold mpV at HM HF ⊢
  rw [hz] at HM HF ⊢
  clear hfm hd hk hz hdl hd0 hcol hr
  -- the boxes
  have hb1 := bone w (.cells #[.slice Ar r.length cr] 51)
  have hB1 := Blk.new w 51 #[.slice Ar r.length cr]
  have hs1 : (w.alloc (.cells #[.slice Ar r.length cr] 51)).heap.size = w.heap.size + 1 := by simp
  obtain ⟨w1, hw1⟩ : ∃ w1, w.alloc (.cells #[.slice Ar r.length cr] 51) = w1 := ⟨_, rfl⟩
  rw [hw1] at hb1 hB1 hs1
  have hb2 := bone w1 (.cells #[.int .i64 m.cas, .int .i64 m.act, .int .i64 m.res, .int .i64 m.life, .int .i64 m.time, .slice Ad 0 cd, .slice Ak m.kinds.length ck, .int .u8 z] 33)
  have hB2 := Blk.new w1 33 #[.int .i64 m.cas, .int .i64 m.act, .int .i64 m.res, .int .i64 m.life, .int .i64 m.time, .slice Ad 0 cd, .slice Ak m.kinds.length ck, .int .u8 z]
  have hs2 : (w1.alloc (.cells #[.int .i64 m.cas, .int .i64 m.act, .int .i64 m.res, .int .i64 m.life, .int .i64 m.time, .slice Ad 0 cd, .slice Ak m.kinds.length ck, .int .u8 z] 33)).heap.size = w.heap.size + 2 := by simp [hs1]
  rw [hs1] at hB2
  obtain ⟨w2, hw2⟩ : ∃ w2, w1.alloc (.cells #[.int .i64 m.cas, .int .i64 m.act, .int .i64 m.res, .int .i64 m.life, .int .i64 m.time, .slice Ad 0 cd, .slice Ak m.kinds.length ck, .int .u8 z] 33) = w2 := ⟨_, rfl⟩
  rw [hw2] at hb2 hB2 hs2
  have hb3 := bone w2 (.cells #[.int .i64 0, .int .i64 0] 40)
  have hB3 := Blk.new w2 40 #[.int .i64 0, .int .i64 0]
  rw [hs2] at hB3
  obtain ⟨w3, hw3⟩ : ∃ w3, w2.alloc (.cells #[.int .i64 0, .int .i64 0] 40) = w3 := ⟨_, rfl⟩
  have HB3 : Hid (Below w.heap.size w w3) := by rw [← hw3]; exact bthen (bthen hb1 hb2) hb3
  have HR3 : Hid (Blk w3 w.heap.size 51 #[.slice Ar r.length cr]) := by rw [← hw3]; exact (hB1.now hb2).now hb3
  have HM3 : Hid (Blk w3 (w.heap.size + 1) 33 #[.int .i64 m.cas, .int .i64 m.act, .int .i64 m.res, .int .i64 m.life, .int .i64 m.time, .slice Ad 0 cd, .slice Ak m.kinds.length ck, .int .u8 z]) := by rw [← hw3]; exact hB2.now hb3
  have HP3 : Hid (Blk w3 (w.heap.size + 2) 40 #[.int .i64 0, .int .i64 0]) := by rw [← hw3]; exact hB3
  have HW : Hid (((w.alloc (.cells #[.slice Ar r.length cr] 51)).alloc (.cells #[.int .i64 m.cas, .int .i64 m.act, .int .i64 m.res, .int .i64 m.life, .int .i64 m.time, .slice Ad 0 cd, .slice Ak m.kinds.length ck, .int .u8 z] 33)).alloc (.cells #[.int .i64 0, .int .i64 0] 40) = w3) := by show _ = _; rw [hw1, hw2, hw3]
  clear hb1 hB1 hs1 hw1 hb2 hB2 hs2 hw2 hb3 hB3 hw3
  go_enter Tryz.func53, Tryz.ntmps53
  go_upto_region 1 with fail
  rw [HW.out]
  clear HW
  have HFW := Lib.hid (HF.out w3 (HM.out.now HB3.out))
  obtain ⟨c0, c1, c2, c3, c4, c5, c6, c7⟩ := HM3.out.c8m
  go_wp2_with fail
  (with_reducible refine HFW.out.mono ?_)
  rintro _ w4 ⟨v, rfl, hs, hb⟩
  obtain ⟨Af, cf, rfl, _, _, hs⟩ := hs.open_
  have HS4 := Lib.hid hs
  have HB4 := Lib.hid (bthen HB3.out hb)
  have HR4 := Lib.hid (HR3.out.now hb)
  have HM4 := Lib.hid (HM3.out.now hb)
  have HP4 := Lib.hid (HP3.out.now hb)
  clear hs hb HFW HF c0 c1 c2 c3 c4 c5 c6 c7 HR3 HM3 HP3 HB3
  generalize fieldsB m = fs at *
  have r0 := HR4.out.c1
  go_wp2_with fail
  go_loopw [14] (fun iv wr => ∃ k : Nat, iv = .int .i64 (k : Int) ∧ k ≤ fs.length ∧ w4 = wr) (fun iv _ => fs.length - (intOf iv).toNat)
  case atStart => exact ⟨0, rfl, Nat.zero_le _, rfl⟩
  case round =>
    obtain ⟨k, rfl, hk, rfl⟩ := hrel
    by_cases hlt : k < fs.length
    · obtain ⟨b, o, x, rfl, hD, hx, _, d0⟩ := SlI.at_ HS4.out hlt
      have hxl := HCOL.out x (List.mem_of_getElem? hx)
      have hxl' : ¬ (r.length : Int) ≤ x := by omega
      clear hx hxl
      go_wp2_with fail
      go_roundw
      case rel => exact ⟨k + 1, by go_num, by omega, trivial⟩
      case measure => simp [intOf]; omega
    · obtain ⟨c0, c1, c2, c3, c4, c5, c6, c7⟩ := HM4.out.c8m
      obtain ⟨p0, p1⟩ := HP4.out.c2
      have f0 := HP4.out.frozen 0
      have f1 := HP4.out.frozen 1
      go_wp2_with fail
      go_loopw [29] (fun iv wr => iv = .int .i64 0 ∧ w4 = wr) (fun _ _ => 0)
      case atStart => exact ⟨rfl, rfl⟩
      case round =>
        obtain ⟨rfl, rfl⟩ := hrel
        go_wp2_with fail
        have hz := HP4.out.set_ 0 (.int .i64 0)
        have hz2 := hz.set_ 1 (.int .i64 0)
        have hbz := (HB4.out.setCell (p := ⟨w.heap.size + 2, 0, none⟩) (show w.heap.size ≤ w.heap.size + 2 by omega) (.int .i64 0)).setCell (p := ⟨w.heap.size + 2, 1, none⟩) (show w.heap.size ≤ w.heap.size + 2 by omega) (.int .i64 0)
        have hz3 : Blk ((w4.setCell ⟨w.heap.size + 2, 0, none⟩ (.int .i64 0)).setCell ⟨w.heap.size + 2, 1, none⟩ (.int .i64 0)) (w.heap.size + 2) 40 #[.int .i64 0, .int .i64 0] := hz2
        obtain ⟨r0, r1⟩ := hz3.c2
        generalize (w4.setCell ⟨w.heap.size + 2, 0, none⟩ (.int .i64 0)).setCell ⟨w.heap.size + 2, 1, none⟩ (.int .i64 0) = wz at *
        refine bodyPost_ret (v := .tuple #[.agg #[.int .i64 0, .int .i64 0], .int .i64 0]) (by simp [results, Tryz.results53, go_sem, r0, r1]) rfl ?_
        exact ⟨rfl, hbz⟩
end Go.Proofs.YtoalecalahkblaaGreatDoor

set_option linter.all false
namespace Go.Proofs.YtoalecalahkblaaGreatDoor
open Go.RowKit
def natE (s : Bt) : Int × Int :=
  if 15 < s.length then (0, 3)
  else match okOf (Lib.atoiAll s) with
    | none => (0, 3)
    | some n => if n < 0 ∨ Lib.itoa n ≠ s then (0, 3) else if 1099511627776 < n then (0, 2) else (n, 0)
def RetNat (p : Int × Int) (w : World) (e : Ending) (w' : World) : Prop := e = .returned (.tuple #[.int .i64 p.1, .int .i64 p.2]) ∧ Below w.heap.size w w'
theorem natE_fit (s : Bt) : 0 ≤ (natE s).1 ∧ (natE s).1 ≤ 1099511627776 := by
  unfold natE
  split
  · exact ⟨Int.le_refl _, by simp only; omega⟩
  · split
    · exact ⟨Int.le_refl _, by simp only; omega⟩
    · split
      · exact ⟨Int.le_refl _, by simp only; omega⟩
      · split
        · exact ⟨Int.le_refl _, by simp only; omega⟩
        · simp only; omega
theorem itoa_beq (n : Int) (s : ByteArray) : ((itoaS n).toList == s.toList) = decide (Lib.itoa n = s.data.toList) := by
  have h1 : (itoaS n).toList = Lib.itoa n := by rw [Lib.toList_data]; rfl
  have h2 : s.toList = s.data.toList := Lib.toList_data s
  rw [h1, h2]
  by_cases h : Lib.itoa n = s.data.toList
  · rw [decide_eq_true h, h]; exact beq_self_eq_true _
  · rw [decide_eq_false h]; exact beq_false_of_ne h
set_option maxHeartbeats 1000000 in
theorem natural_any (s : ByteArray) (w : World) (hs : s.size ≤ 1000000) (ha : AmbP w) : Calls Tryz.prog 99 #[.string s] w (RetNat (natE s.data.toList) w) := by
  have hlen : s.data.toList.length = s.size := by simp
  by_cases h15 : 15 < s.size
  · have i1 : (15 : Int) < (s.size : Int) := by omega
    have HE : Hid (natE s.data.toList = (0, 3)) := by show _ = _; unfold natE; rw [if_pos (by omega)]
    clear hlen h15
    go_enter Tryz.func99, Tryz.ntmps99
    go_wp2_with fail
    go_ret2
    show RetNat _ _ _ _
    rw [HE.out]
    exact ⟨rfl, Below.refl _ _⟩
  have i1 : ¬ (15 : Int) < (s.size : Int) := by omega
  have HE : Hid (natE s.data.toList = match okOf (Lib.atoiAll s.data.toList) with
    | none => (0, 3)
    | some n => if n < 0 ∨ Lib.itoa n ≠ s.data.toList then (0, 3) else if 1099511627776 < n then (0, 2) else (n, 0)) := by
    show _ = _
    unfold natE
    rw [if_neg (by omega)]
  clear hlen h15
  go_enter Tryz.func99, Tryz.ntmps99
  go_wp2_with fail
  refine (atoi_call s _ hs ha).mono ?_
  rintro e w1 ⟨h, hb1⟩
  have ha1 := ha.now hb1
  rcases h with ⟨n, hn, hf, rfl⟩ | ⟨hn, z, N, rfl⟩
  · rw [hn] at HE
    have HE : Hid (natE s.data.toList = if n < 0 ∨ Lib.itoa n ≠ s.data.toList then (0, 3) else if 1099511627776 < n then (0, 2) else (n, 0)) := HE
    by_cases h0 : n < 0
    · have HN : Hid (natE s.data.toList = (0, 3)) := by show _ = _; rw [HE.out, if_pos (.inl h0)]
      clear hn HE
      go_wp2_with fail
      go_ret2
      show RetNat _ _ _ _
      rw [HN.out]
      exact ⟨rfl, hb1⟩
    · have HI := Lib.hid (itoa_any n _ hf ha1)
      have HF := Lib.hid hf
      have hq := itoa_beq n s
      obtain ⟨q, hqq⟩ : ∃ q, ((itoaS n).toList == s.toList) = q := ⟨_, rfl⟩
      rw [hqq] at hq
      have HQ := Lib.hid hq
      have e1 : ((itoaS n).toList != s.toList) = !q := by show (!((itoaS n).toList == s.toList)) = _; rw [hqq]
      clear hn hf hq
      cases q with
      | false =>
        have HN : Hid (natE s.data.toList = (0, 3)) := by show _ = _; rw [HE.out, if_pos (.inr (of_decide_eq_false HQ.out.symm))]
        clear HE
        go_wp2_with fail
        refine HI.out.mono ?_
        rintro e w2 ⟨rfl, hb2⟩
        clear HI
        go_wp2_with fail
        go_ret2
        show RetNat _ _ _ _
        rw [HN.out]
        exact ⟨rfl, bthen hb1 hb2⟩
      | true =>
        have HE2 : Hid (natE s.data.toList = if 1099511627776 < n then (0, 2) else (n, 0)) := by show _ = _; rw [HE.out, if_neg (by rintro (h | h); exact h0 h; exact h (of_decide_eq_true HQ.out.symm))]
        clear HE
        by_cases hbig : 1099511627776 < n
        · have HN : Hid (natE s.data.toList = (0, 2)) := by show _ = _; rw [HE2.out, if_pos hbig]
          go_wp2_with fail
          refine HI.out.mono ?_
          rintro e w2 ⟨rfl, hb2⟩
          clear HI
          go_wp2_with fail
          go_ret2
          show RetNat _ _ _ _
          rw [HN.out]
          exact ⟨rfl, bthen hb1 hb2⟩
        · have HN : Hid (natE s.data.toList = (n, 0)) := by show _ = _; rw [HE2.out, if_neg hbig]
          go_wp2_with fail
          refine HI.out.mono ?_
          rintro e w2 ⟨rfl, hb2⟩
          clear HI
          go_wp2_with fail
          go_ret2
          show RetNat _ _ _ _
          rw [HN.out]
          exact ⟨rfl, bthen hb1 hb2⟩
  · rw [hn] at HE
    have HN : Hid (natE s.data.toList = (0, 3)) := HE
    clear hn HE
    go_wp2_with fail
    go_ret2
    show RetNat _ _ _ _
    rw [HN.out]
    exact ⟨rfl, hb1⟩
end Go.Proofs.YtoalecalahkblaaGreatDoor

set_option linter.all false
namespace Go.Proofs
open Go.Shelf
def Tryz.sortE_ren : Go.Shelf.Ren := ⟨fun | 6 => 101 | 15 => 146 | 14 => 145 | 28 => 177 | 29 => 178 | 20 => 169 | 21 => 170 | 22 => 171 | 23 => 172 | 24 => 173 | 25 => 174 | 26 => 175 | 27 => 176 | 46 => 209 | 47 => 210 | 48 => 211 | 49 => 212 | 50 => 213 | 57 => 229 | n => n, fun | 22 => 67 | 24 => 123 | 25 => 141 | 3 => 3 | 39 => 172 | 0 => 0 | 53 => 190 | 55 => 192 | 4 => 4 | 46 => 183 | 45 => 182 | 50 => 187 | 5 => 5 | 9 => 9 | 66 => 215 | 70 => 219 | 76 => 236 | 77 => 148 | n => n, fun | n => n⟩
theorem Tryz.sortE : Go.Proofs.SlLaysF0.n6 Tryz.prog Tryz.sortE_ren := {
  mixed := by kernel_rfl
  f6 := ⟨Tryz.f101.name, by decide, Tryz.func101.trans (congrArg some (by kernel_rfl))⟩
  f14 := ⟨Tryz.f145.name, by decide, Tryz.func145.trans (congrArg some (by kernel_rfl))⟩
  f15 := Tryz.func146.trans (congrArg some (by kernel_rfl))
  f20 := ⟨Tryz.f169.name, by decide, Tryz.func169.trans (congrArg some (by kernel_rfl))⟩
  f21 := ⟨Tryz.f170.name, by decide, Tryz.func170.trans (congrArg some (by kernel_rfl))⟩
  f22 := ⟨Tryz.f171.name, by decide, Tryz.func171.trans (congrArg some (by kernel_rfl))⟩
  f23 := ⟨Tryz.f172.name, by decide, Tryz.func172.trans (congrArg some (by kernel_rfl))⟩
  f24 := ⟨Tryz.f173.name, by decide, Tryz.func173.trans (congrArg some (by kernel_rfl))⟩
  f25 := ⟨Tryz.f174.name, by decide, Tryz.func174.trans (congrArg some (by kernel_rfl))⟩
  f26 := ⟨Tryz.f175.name, by decide, Tryz.func175.trans (congrArg some (by kernel_rfl))⟩
  f27 := ⟨Tryz.f176.name, by decide, Tryz.func176.trans (congrArg some (by kernel_rfl))⟩
  f28 := Tryz.func177.trans (congrArg some (by kernel_rfl))
  f29 := Tryz.func178.trans (congrArg some (by kernel_rfl))
  f46 := ⟨Tryz.f209.name, by decide, Tryz.func209.trans (congrArg some (by kernel_rfl))⟩
  f47 := Tryz.func210.trans (congrArg some (by kernel_rfl))
  f48 := Tryz.func211.trans (congrArg some (by kernel_rfl))
  f49 := ⟨Tryz.f212.name, by decide, Tryz.func212.trans (congrArg some (by kernel_rfl))⟩
  f50 := ⟨Tryz.f213.name, by decide, Tryz.func213.trans (congrArg some (by kernel_rfl))⟩
  f57 := ⟨Tryz.f229.name, by decide, Tryz.func229.trans (congrArg some (by kernel_rfl))⟩
  t0 := Tryz.underlying0
  a0 := Tryz.isAgg0
  z0 := Tryz.sizeOf0
  v0 := Tryz.zeroValue0
  t3 := Tryz.underlying3
  a3 := Tryz.isAgg3
  z3 := Tryz.sizeOf3
  v3 := Tryz.zeroValue3
  t4 := Tryz.underlying4
  a4 := Tryz.isAgg4
  z4 := Tryz.sizeOf4
  v4 := Tryz.zeroValue4
  t5 := Tryz.underlying5
  a5 := Tryz.isAgg5
  z5 := Tryz.sizeOf5
  v5 := Tryz.zeroValue5
  t9 := Tryz.underlying9
  a9 := Tryz.isAgg9
  z9 := Tryz.sizeOf9
  v9 := Tryz.zeroValue9
  t22 := Tryz.underlying67
  a22 := Tryz.isAgg67
  z22 := Tryz.sizeOf67
  v22 := Tryz.zeroValue67
  t25 := Tryz.underlying141
  a25 := Tryz.isAgg141
  z25 := Tryz.sizeOf141
  v25 := Tryz.zeroValue141
  t39 := Tryz.underlying172
  a39 := Tryz.isAgg172
  z39 := Tryz.sizeOf172
  v39 := Tryz.zeroValue172
  t45 := Tryz.underlying182
  a45 := Tryz.isAgg182
  z45 := Tryz.sizeOf182
  v45 := Tryz.zeroValue182
  t46 := Tryz.underlying183
  a46 := Tryz.isAgg183
  z46 := Tryz.sizeOf183
  v46 := Tryz.zeroValue183
  t50 := Tryz.underlying187
  a50 := Tryz.isAgg187
  z50 := Tryz.sizeOf187
  v50 := Tryz.zeroValue187
  t53 := Tryz.underlying190
  a53 := Tryz.isAgg190
  z53 := Tryz.sizeOf190
  v53 := Tryz.zeroValue190
  t55 := Tryz.underlying192
  a55 := Tryz.isAgg192
  z55 := Tryz.sizeOf192
  v55 := Tryz.zeroValue192
  t66 := Tryz.underlying215
  a66 := Tryz.isAgg215
  z66 := Tryz.sizeOf215
  v66 := Tryz.zeroValue215
  t70 := Tryz.underlying219
  a70 := Tryz.isAgg219
  z70 := Tryz.sizeOf219
  v70 := Tryz.zeroValue219
  t76 := Tryz.underlying236
  a76 := Tryz.isAgg236
  z76 := Tryz.sizeOf236
  v76 := Tryz.zeroValue236
  t77 := Tryz.underlying148
  a77 := Tryz.isAgg148
  z77 := Tryz.sizeOf148
  v77 := Tryz.zeroValue148 }
def Tryz.insE_ren : Go.Shelf.Ren := ⟨fun | 20 => 148 | n => n, fun | 24 => 69 | 22 => 36 | 3 => 3 | 25 => 92 | 4 => 4 | 0 => 0 | n => n, fun | n => n⟩
theorem Tryz.insE : Go.Proofs.SlLaysF0.n20 Tryz.prog Tryz.insE_ren := {
  mixed := by kernel_rfl
  f20 := ⟨Tryz.f148.name, by decide, Tryz.func148.trans (congrArg some (by kernel_rfl))⟩
  t0 := Tryz.underlying0
  a0 := Tryz.isAgg0
  z0 := Tryz.sizeOf0
  v0 := Tryz.zeroValue0
  t3 := Tryz.underlying3
  a3 := Tryz.isAgg3
  z3 := Tryz.sizeOf3
  v3 := Tryz.zeroValue3
  t4 := Tryz.underlying4
  a4 := Tryz.isAgg4
  z4 := Tryz.sizeOf4
  v4 := Tryz.zeroValue4
  t22 := Tryz.underlying36
  a22 := Tryz.isAgg36
  z22 := Tryz.sizeOf36
  v22 := Tryz.zeroValue36
  t25 := Tryz.underlying92
  a25 := Tryz.isAgg92
  z25 := Tryz.sizeOf92
  v25 := Tryz.zeroValue92 }
end Go.Proofs

set_option linter.all false
namespace Go.Proofs.YtoalecalahkblaaGreatDoor
open Go.RowKit
section
variable {α : Type} (lt : α → α → Bool)
def mg : List α → List α → List α
  | [], Y => Y
  | x :: X, [] => x :: X
  | x :: X, y :: Y => if lt y x = true then y :: mg (x :: X) Y else x :: mg X (y :: Y)
termination_by X Y => X.length + Y.length
theorem mg_nil (Y : List α) : mg lt [] Y = Y := by rw [mg]
theorem mg_none (X : List α) : mg lt X [] = X := by cases X <;> rw [mg]
theorem mg_cons (x y : α) (X Y : List α) : mg lt (x :: X) (y :: Y) = if lt y x = true then y :: mg lt (x :: X) Y else x :: mg lt X (y :: Y) := by rw [mg]
theorem mg_perm : ∀ (n : Nat) (X Y : List α), X.length + Y.length = n → (mg lt X Y).Perm (X ++ Y)
  | n, [], Y, _ => by rw [mg_nil]; exact List.Perm.refl _
  | n, x :: X, [], _ => by rw [mg_none, List.append_nil]
  | 0, x :: X, y :: Y, h => by simp at h
  | n + 1, x :: X, y :: Y, h => by
    rw [mg_cons]
    split
    · have ih := mg_perm n (x :: X) Y (by simp only [List.length_cons] at h ⊢; omega)
      exact (ih.cons y).trans List.perm_middle.symm
    · have ih := mg_perm n X (y :: Y) (by simp only [List.length_cons] at h ⊢; omega)
      exact ih.cons x
theorem mg_split : ∀ (n : Nat) (X1 X2 Y1 Y2 : List α), X1.length + Y1.length = n → (∀ x ∈ X1, ∀ y ∈ Y2, lt y x = false) → (∀ y ∈ Y1, ∀ x ∈ X2, lt y x = true) → mg lt (X1 ++ X2) (Y1 ++ Y2) = mg lt X1 Y1 ++ mg lt X2 Y2
  | n, [], X2, [], Y2, _, _, _ => by rw [mg_nil, List.nil_append, List.nil_append, List.nil_append]
  | 0, x :: X1, _, _, _, h, _, _ => by simp at h
  | 0, [], _, y :: Y1, _, h, _, _ => by simp at h
  | n + 1, [], X2, y :: Y1, Y2, h, h1, h2 => by
    have ih := mg_split n [] X2 Y1 Y2 (by simp only [List.length_cons] at h; simpa using h) (by simp) (fun z hz => h2 z (List.mem_cons_of_mem _ hz))
    rw [mg_nil] at ih ⊢
    rw [List.nil_append] at ih ⊢
    cases X2 with
    | nil => rw [mg_nil, mg_nil]
    | cons x X2 =>
      rw [List.cons_append, mg_cons, if_pos (h2 y List.mem_cons_self x List.mem_cons_self), ih]; rfl
  | n + 1, x :: X1, X2, [], Y2, h, h1, h2 => by
    have ih := mg_split n X1 X2 [] Y2 (by simp only [List.length_cons, List.length_nil] at h ⊢; omega) (fun z hz => h1 z (List.mem_cons_of_mem _ hz)) (by simp)
    rw [mg_none] at ih ⊢
    rw [List.nil_append] at ih ⊢
    cases Y2 with
    | nil => rw [mg_none, mg_none]
    | cons y Y2 =>
      rw [List.cons_append, mg_cons, if_neg (by rw [h1 x List.mem_cons_self y List.mem_cons_self]; decide), ih]; rfl
  | n + 1, x :: X1, X2, y :: Y1, Y2, h, h1, h2 => by
    rw [List.cons_append, List.cons_append, mg_cons, mg_cons]
    by_cases hl : lt y x = true
    · rw [if_pos hl, if_pos hl]
      have ih := mg_split n (x :: X1) X2 Y1 Y2 (by simp only [List.length_cons] at h ⊢; omega) h1 (fun z hz => h2 z (List.mem_cons_of_mem _ hz))
      rw [List.cons_append] at ih
      rw [ih]; rfl
    · rw [if_neg hl, if_neg hl]
      have ih := mg_split n X1 X2 (y :: Y1) Y2 (by simp only [List.length_cons] at h ⊢; omega) (fun z hz => h1 z (List.mem_cons_of_mem _ hz)) h2
      rw [List.cons_append] at ih
      rw [ih]; rfl
end
end Go.Proofs.YtoalecalahkblaaGreatDoor

set_option linter.all false
namespace Go.Proofs.YtoalecalahkblaaGreatDoor
open Go.RowKit
section
variable {α : Type} {lt : α → α → Bool} (hO : Go.Sort.SWO lt)
include hO
end
section
variable {α : Type} (lt : α → α → Bool)
def insL (X : List α) (y : α) : List α := mg lt X [y]
def sortS (l : List α) : List α := l.foldl (insL lt) []
def AscM (l : List α) : Prop := l.Pairwise fun x y => lt y x = false
end
end Go.Proofs.YtoalecalahkblaaGreatDoor

set_option linter.all false
namespace Go.Proofs.YtoalecalahkblaaGreatDoor
open Go.RowKit
section
variable {α : Type} [Inhabited α]
theorem at_mid (A B : List α) (x : α) : ((A ++ x :: B).toArray)[A.length]! = x := by
  rw [getElem!_pos _ _ (by simp)]
  simp
theorem swp_adj (A B : List α) (x y : α) : Go.Sort.swp (A ++ x :: y :: B).toArray (A.length + 1) A.length = (A ++ y :: x :: B).toArray := by
  have h1 := at_mid A (y :: B) x
  have h2 := at_mid (A ++ [x]) B y
  rw [List.length_append, List.length_singleton, List.append_assoc] at h2
  have h2 : ((A ++ x :: y :: B).toArray)[A.length + 1]! = y := h2
  unfold Go.Sort.swp
  rw [h1, h2]
  apply Array.ext'
  simp [List.set_append]
variable {lt : α → α → Bool}
theorem insInner_list (hO : Go.Sort.SWO lt) (P : List α) (y : α) (S : List α) : ∀ (n : Nat) (X : List α), X.length = n → AscM lt X → Go.Sort.insInner lt P.length (P.length + X.length) (P ++ X ++ y :: S).toArray = (P ++ mg lt X [y] ++ S).toArray
  | 0, X, hn, _ => by
    have : X = [] := List.eq_nil_of_length_eq_zero hn
    subst this
    rw [Go.Proofs.insInner_stop lt _ _ _ (.inl (by simp)), mg_nil]; simp
  | n + 1, X, hn, hX => by
    obtain ⟨X', x, rfl⟩ : ∃ X' x, X = X' ++ [x] := ⟨X.dropLast, X.getLast (by rintro rfl; simp at hn), (List.dropLast_concat_getLast _).symm⟩
    rw [List.length_append, List.length_singleton] at hn
    have e : P ++ (X' ++ [x]) ++ y :: S = (P ++ X') ++ x :: y :: S := by simp
    have hx := at_mid (P ++ X') (y :: S) x
    have hy := at_mid (P ++ X' ++ [x]) S y
    rw [List.length_append] at hx
    rw [List.length_append, List.length_append, List.length_singleton, List.append_assoc (P ++ X')] at hy
    have hy : ((P ++ X') ++ x :: y :: S).toArray[P.length + X'.length + 1]! = y := hy
    have hj : P.length + (X' ++ [x]).length = P.length + X'.length + 1 := by rw [List.length_append, List.length_singleton]; omega
    rw [e, hj]
    by_cases hl : lt y x = true
    · rw [Go.Proofs.insInner_go lt _ _ _ (by omega) (by rw [hy, Nat.add_sub_cancel, hx]; exact hl), Nat.add_sub_cancel]
      have hs := swp_adj (P ++ X') S x y
      rw [List.length_append] at hs
      rw [hs, insInner_list hO P y (x :: S) n X' (by omega) (List.pairwise_append.1 hX).1]
      have hm := mg_split lt _ X' [x] [y] [] rfl (by simp) (fun z hz w hw => by simp at hz hw; subst hz hw; exact hl)
      rw [List.append_nil] at hm
      rw [hm, mg_none]; simp
    · have hl' : lt y x = false := by simpa using hl
      rw [Go.Proofs.insInner_stop lt _ _ _ (.inr (by rw [hy, Nat.add_sub_cancel, hx]; exact hl'))]
      have hall : ∀ z ∈ X' ++ [x], lt y z = false := fun z hz => by
        rcases List.mem_append.1 hz with hz | hz
        · exact hO.ntrans _ _ _ hl' ((List.pairwise_append.1 hX).2.2 z hz x (by simp))
        · simp at hz; subst hz; exact hl'
      have hm := mg_split lt _ (X' ++ [x]) [] [] [y] rfl (fun z hz w hw => by simp at hw; subst hw; exact hall z hz) (by simp)
      rw [List.append_nil, List.nil_append] at hm
      rw [hm, mg_none, mg_nil]; simp
theorem asc_mg (hO : Go.Sort.SWO lt) : ∀ (n : Nat) (X Y : List α), X.length + Y.length = n → AscM lt X → AscM lt Y → AscM lt (mg lt X Y)
  | n, [], Y, _, _, hY => by rw [mg_nil]; exact hY
  | n, x :: X, [], _, hX, _ => by rw [mg_none]; exact hX
  | 0, x :: X, y :: Y, h, _, _ => by simp at h
  | n + 1, x :: X, y :: Y, h, hX, hY => by
    simp only [List.length_cons] at h
    rw [mg_cons]
    by_cases hl : lt y x = true
    · rw [if_pos hl]
      have hxy : lt x y = false := by
        by_cases e : lt x y = true
        · have := hO.trans _ _ _ hl e
          rw [hO.irrefl] at this; cases this
        · simpa using e
      refine List.Pairwise.cons (fun z hz => ?_) (asc_mg hO n (x :: X) Y (by simp only [List.length_cons]; omega) hX (List.Pairwise.of_cons hY))
      rcases List.mem_append.1 ((mg_perm lt _ (x :: X) Y rfl).mem_iff.1 hz) with hz | hz
      · rcases List.mem_cons.1 hz with rfl | hz
        · exact hxy
        · exact hO.ntrans _ _ _ (List.rel_of_pairwise_cons hX hz) hxy
      · exact List.rel_of_pairwise_cons hY hz
    · rw [if_neg hl]
      refine List.Pairwise.cons (fun z hz => ?_) (asc_mg hO n X (y :: Y) (by simp only [List.length_cons]; omega) (List.Pairwise.of_cons hX) hY)
      rcases List.mem_append.1 ((mg_perm lt _ X (y :: Y) rfl).mem_iff.1 hz) with hz | hz
      · exact List.rel_of_pairwise_cons hX hz
      · have hl' : lt y x = false := by simpa using hl
        rcases List.mem_cons.1 hz with rfl | hz
        · exact hl'
        · exact hO.ntrans _ _ _ (List.rel_of_pairwise_cons hY hz) hl'
theorem insOuter_list (hO : Go.Sort.SWO lt) (P S : List α) : ∀ (B A : List α), AscM lt A → Go.Sort.insOuter lt P.length (P.length + A.length + B.length) (P.length + A.length) (P ++ A ++ B ++ S).toArray = (P ++ B.foldl (insL lt) A ++ S).toArray
  | [], A, _ => by rw [Go.Proofs.insOuter_stop lt _ _ _ _ (by simp)]; simp
  | y :: B, A, hA => by
    rw [Go.Proofs.insOuter_go lt _ _ _ _ (by rw [List.length_cons]; omega)]
    have e : P ++ A ++ (y :: B) ++ S = P ++ A ++ y :: (B ++ S) := by simp
    rw [e, insInner_list hO P y (B ++ S) _ A rfl hA]
    have hl : (mg lt A [y]).length = A.length + 1 := by rw [(mg_perm lt _ A [y] rfl).length_eq]; simp
    have ih := insOuter_list hO P S B (mg lt A [y]) (asc_mg hO _ A [y] rfl hA (by unfold AscM; simp))
    rw [hl] at ih
    rw [List.length_cons, show P.length + A.length + (B.length + 1) = P.length + (A.length + 1) + B.length by omega, show P.length + A.length + 1 = P.length + (A.length + 1) by omega]
    have e2 : P ++ mg lt A [y] ++ (B ++ S) = P ++ mg lt A [y] ++ B ++ S := by simp
    rw [e2, ih]; rfl
theorem perm_fold : ∀ (B A : List α), (B.foldl (insL lt) A).Perm (A ++ B)
  | [], A => by rw [List.append_nil]; exact List.Perm.refl _
  | y :: B, A => by
    refine (perm_fold B (insL lt A y)).trans ?_
    have h := (mg_perm lt _ A [y] rfl).append_right B
    rw [List.append_assoc] at h
    exact h
theorem perm_sortS (l : List α) : (sortS lt l).Perm l := perm_fold l []
theorem insertionSort_list (hO : Go.Sort.SWO lt) (P L S : List α) : Go.Sort.insertionSort lt (P ++ L ++ S).toArray P.length (P.length + L.length) = (P ++ sortS lt L ++ S).toArray := by
  unfold Go.Sort.insertionSort sortS
  cases L with
  | nil => rw [Go.Proofs.insOuter_stop lt _ _ _ _ (by simp)]; simp
  | cons x L =>
    have h := insOuter_list hO P S L [x] (by unfold AscM; simp)
    have e : P ++ [x] ++ L ++ S = P ++ (x :: L) ++ S := by simp
    rw [e, List.length_singleton] at h
    rw [List.length_cons, show P.length + (L.length + 1) = P.length + 1 + L.length by omega, h, List.foldl_cons]
    unfold insL
    rw [mg_nil]
end
end Go.Proofs.YtoalecalahkblaaGreatDoor

set_option linter.all false
namespace Go.Proofs.YtoalecalahkblaaGreatDoor
open Go.RowKit
theorem flatK_eq {α β : Type} [Inhabited α] {k : Nat} (enc : α → List Value) (fc : β → List Value) (val : α → β) (he : ∀ x, enc x = fc (val x)) (hk : ∀ x, (enc x).length = k) (d : Array α) : (Go.Sort.flatK enc k d).toList = flat fc (d.toList.map val) := by
  have hfe : flat fc (d.toList.map val) = flat enc d.toList := by
    unfold flat
    rw [List.flatMap_map]
    congr 1
    funext x; exact (he x).symm
  rw [hfe]
  have hl : (flat enc d.toList).length = d.size * k := by rw [flat_len hk, Array.length_toList]
  apply List.ext_getElem
  · rw [Array.length_toList, Go.Sort.size_flatK, hl]
  · intro i h1 h2
    have hi : i < d.size * k := by rw [← hl]; exact h2
    have hk0 : 0 < k := by
      rcases Nat.eq_zero_or_pos k with h | h
      · rw [h] at hi; omega
      · exact h
    have h3 := Go.Sort.get_flatK enc k d i hi
    have h1' : i < (Go.Sort.flatK enc k d).size := by simpa using h1
    rw [getElem!_pos _ i h1'] at h3
    have hid : i / k < d.size := Nat.div_lt_of_lt_mul (by rw [Nat.mul_comm]; exact hi)
    have him : i % k < k := Nat.mod_lt _ hk0
    rw [getElem!_pos d (i / k) hid, getElem!_pos _ (i % k) (by rw [hk]; exact him)] at h3
    have h4 := flat_get hk d.toList (i / k) (i % k) d[i / k] (by rw [Array.getElem?_toList, Array.getElem?_eq_getElem hid]) him
    have e : i / k * k + i % k = i := by rw [Nat.mul_comm]; exact Nat.div_add_mod i k
    rw [e, List.getElem?_eq_getElem h2, List.getElem?_eq_getElem (by rw [hk]; exact him)] at h4
    injection h4 with h4
    rw [Array.getElem_toList, h3, h4]
theorem grown_sorted {α : Type} [Inhabited α] (enc : α → List Value) (k : Nat) (w : World) (g n : Nat) (d : Array α) (os : Array Obj) : w.grownBy (Go.Proofs.sortWorldK enc k w g 0 n d os) (some g) := by
  refine ⟨rfl, rfl, rfl, by simp [Go.Proofs.sortWorldK, Go.Sort.putRowK], fun j hj hne => ?_⟩
  unfold Go.Proofs.sortWorldK Go.Sort.putRowK
  rw [Go.Sort.heap_grow_old _ _ (by simpa using hj)]
  have : g ≠ j := fun e => hne (by rw [e])
  simp [Go.Sort.putRow, Go.Sort.mapBlock, Go.Sort.ahead, Array.getElem?_modify, this]
theorem heap_sortedK {α : Type} [Inhabited α] (enc : α → List Value) (k : Nat) (w : World) (g n : Nat) (d : Array α) (os : Array Obj) {cur : Array Value} {e : TypeId} {fr : Nat × Nat} (hb : w.heap[g]? = some (.cells cur e fr)) :
    (Go.Proofs.sortWorldK enc k w g 0 n d os).heap[g]? = some (.cells (Go.Sort.putCells id 0 (Go.Sort.flatK enc k d) cur) e fr) := by
  have hg : g < w.heap.size := (Array.getElem?_eq_some_iff.1 hb).1
  unfold Go.Proofs.sortWorldK Go.Sort.putRowK
  rw [Go.Sort.heap_grow_old _ _ (by simpa using hg)]
  simp [Go.Sort.putRow, Go.Sort.mapBlock, Go.Sort.ahead, Array.getElem?_modify, hb, Go.Sort.onCells]
theorem take_put (cur F : Array Value) (h : F.size ≤ cur.size) : (Go.Sort.putCells id 0 F cur).toList.take F.size = F.toList := by
  apply List.ext_getElem?
  intro j
  by_cases hj : j < F.size
  · rw [List.getElem?_take_of_lt hj, Array.getElem?_toList]
    simp [Go.Sort.putCells, hj, show j < cur.size by omega]
  · rw [List.getElem?_take_eq_none (by omega), List.getElem?_eq_none (by simp; omega)]
def evC (e : Ev) : List Value := [.string e.cas, .string e.act, .string e.res, .int .i64 e.life, .int .i64 e.time, .slice none 0 0]
def tlt (x y : Ev) : Bool := decide (x.time < y.time)
theorem swo_tlt : Go.Sort.SWO tlt := by
  refine ⟨fun x => ?_, fun x y z => ?_, fun x y z => ?_⟩ <;> unfold tlt
  · simp
  · simp only [decide_eq_true_eq]; omega
  · simp only [decide_eq_false_iff_not]; omega
theorem ltOf_time : (Go.Proofs.ltOf fun x y : Ev => Lib.compareInt x.time y.time) = tlt := by
  funext x y
  unfold tlt
  show decide ((if x.time < y.time then (-1 : Int) else if x.time > y.time then 1 else 0) < 0) = _
  by_cases h : x.time < y.time
  · rw [if_pos h, decide_eq_true h]; rfl
  · rw [if_neg h, decide_eq_false h]
    by_cases h2 : x.time > y.time
    · rw [if_pos h2]; rfl
    · rw [if_neg h2]; rfl
theorem evCmp_any (x y : Ev) (W : World) :
    Calls Tryz.prog 56 #[.agg (evC x).toArray, .agg (evC y).toArray] W fun e w' => e = .returned (.int .i64 (Lib.compareInt x.time y.time)) ∧ ∃ q os', w' = Go.Sort.grow (W.drewN q) os' := by
  have hb1 := bone W (.cells (evC x).toArray 69)
  have hb2 := bone (W.alloc (.cells (evC x).toArray 69)) (.cells (evC y).toArray 69)
  unfold evC at hb1 hb2 ⊢
  have HX := Lib.hid ((Blk.new W 69 #[.string x.cas, .string x.act, .string x.res, .int .i64 x.life, .int .i64 x.time, .slice none 0 0]).now hb2)
  have HY := Lib.hid (Blk.new (W.alloc (.cells #[.string x.cas, .string x.act, .string x.res, .int .i64 x.life, .int .i64 x.time, .slice none 0 0] 69)) 69 #[.string y.cas, .string y.act, .string y.res, .int .i64 y.life, .int .i64 y.time, .slice none 0 0])
  have hsz1 : (W.alloc (.cells #[.string x.cas, .string x.act, .string x.res, .int .i64 x.life, .int .i64 x.time, .slice none 0 0] 69)).heap.size = W.heap.size + 1 := by simp
  rw [hsz1] at HY
  have HG : Hid (∃ q os', (W.alloc (.cells #[.string x.cas, .string x.act, .string x.res, .int .i64 x.life, .int .i64 x.time, .slice none 0 0] 69)).alloc (.cells #[.string y.cas, .string y.act, .string y.res, .int .i64 y.life, .int .i64 y.time, .slice none 0 0] 69) = Go.Sort.grow (W.drewN q) os') := Lib.hid ⟨0, _, by rw [Go.Sort.alloc_eq_grow, Go.Sort.alloc_eq_grow, Go.Sort.grow_grow]; rfl⟩
  have HC := Lib.hid (Tryz.cmp_Compare_int x.time y.time)
  clear hb1 hb2 hsz1
  go_enter Tryz.func56, Tryz.ntmps56
  go_upto_region 1 with fail
  obtain ⟨w2, hw2⟩ : ∃ w2, (W.alloc (.cells #[.string x.cas, .string x.act, .string x.res, .int .i64 x.life, .int .i64 x.time, .slice none 0 0] 69)).alloc (.cells #[.string y.cas, .string y.act, .string y.res, .int .i64 y.life, .int .i64 y.time, .slice none 0 0] 69) = w2 := ⟨_, rfl⟩
  rw [hw2] at HX HY HG ⊢
  clear hw2
  obtain ⟨a0, a1, a2, a3, a4, a5⟩ := HX.out.c6
  obtain ⟨b0, b1, b2, b3, b4, b5⟩ := HY.out.c6
  go_wp2_with fail
  (with_reducible refine (HC.out _).mono ?_)
  rintro e w' ⟨rfl, rfl⟩
  go_wp2_with fail
  go_ret
  exact ⟨rfl, HG.out⟩
theorem enters_evCmp : ∀ args w, (callFunc 56 args).run Tryz.prog w = .ok (.enter 56 args) w := enters_of Tryz.func56 (by kernel_rfl) rfl
theorem evC_one (e : Ev) : ∀ v ∈ evC e, v.oneCell' = true := fun v hv => by
  simp [evC] at hv
  rcases hv with rfl | rfl | rfl | rfl | rfl | rfl <;> rfl
def OwnE0 (w : World) (base : Nat) (v : Value) (L : List Ev) : Prop := OwnW 6 evC w base 69 v L
theorem insE_any {w : World} {base g cap : Nat} {L : List Ev} (ho : OwnE0 w base (.slice (some ⟨g, 0, none⟩) L.length cap) L) (h0 : 0 < L.length) (hl : L.length ≤ 1000000) :
    Calls Tryz.prog 148 #[.slice (some ⟨g, 0, none⟩) L.length cap, .int .i64 0, .int .i64 L.length, .func (.func 56) #[] #[]] w fun e w' => e = .returned (.tuple #[]) ∧ OwnE0 w' base (.slice (some ⟨g, 0, none⟩) L.length cap) (sortS tlt L) ∧ w.grownBy w' (some g) := by
  rcases ho.2 with ⟨_, h1⟩ | ⟨g', cap', cur, he, hb, hg, hc1, hc2, hc3, htk⟩
  · omega
  injection he with he1 _ he2
  injection he1 with he1
  injection he1 with he1 _ _
  subst he1 he2
  have hgl : g < w.heap.size := (Array.getElem?_eq_some_iff.1 hg).1
  haveI : Inhabited Ev := ⟨L[0]'h0⟩
  have hF : (Go.Sort.flatK evC 6 L.toArray).toList = flat evC L := by
    have := flatK_eq (k := 6) evC evC (fun x : Ev => x) (fun _ => rfl) (fun _ => rfl) L.toArray
    rw [this, List.map_id']
  have hfl : (flat evC L).length = L.length * 6 := flat_len (size := 6) (fun _ => rfl) L
  have hH : Go.Sort.HoldsK evC 6 w g 0 L.toArray := by
    intro j hj
    have hjs : j < L.length * 6 := by rw [← hfl, ← hF, Array.length_toList]; exact hj
    refine ⟨?_, by simp [World.frozen?, hg]⟩
    have h1 : (cur.toList.take (L.length * 6))[j]? = (flat evC L)[j]? := by rw [htk]
    rw [List.getElem?_take_of_lt (by omega), ← hF] at h1
    simp only [World.cell?, hg, Nat.zero_add, Option.isSome_none, Bool.false_eq_true, if_false]
    rw [← Array.getElem?_toList, h1, Array.getElem?_toList, Array.getElem?_eq_getElem hj, getElem!_pos _ j hj]; rfl
  have hcmp : Go.Proofs.CmpLays Tryz.prog 56 #[] evC 6 (fun x y : Ev => Lib.compareInt x.time y.time) g 0 L.toArray.size w := fun m os dk hdk x y => evCmp_any x y _
  have h := Go.Proofs.AnyQ.insertionSortCmpFunc Tryz.insE 6 Tryz.isAgg69 Tryz.sizeOf69 evC (fun _ => rfl) (fun x => evC_one x) (fun x y : Ev => Lib.compareInt x.time y.time) 56 #[] g 0 cap 0 L.length L.toArray w enters_evCmp hcmp hH hgl (Nat.zero_le _) (Nat.le_refl _) (by show L.length < _; omega)
  have hins : Go.Sort.insertionSort (Go.Proofs.ltOf fun x y : Ev => Lib.compareInt x.time y.time) L.toArray 0 L.length = (sortS tlt L).toArray := by
    rw [ltOf_time]
    have := insertionSort_list swo_tlt [] L []
    simpa using this
  rw [hins] at h
  have hsl : (sortS tlt L).length = L.length := (perm_sortS (lt := tlt) L).length_eq
  refine Calls.mono (show Calls Tryz.prog 148 #[.slice (some ⟨g, 0, none⟩) L.length cap, .int .i64 0, .int .i64 L.length, .func (.func 56) #[] #[]] w _ from h) fun e w' ⟨he, n, os, hw⟩ => ⟨he, ?_, by rw [hw]; exact grown_sorted evC 6 w g n _ os⟩
  obtain ⟨S, hS⟩ : ∃ S, sortS tlt L = S := ⟨_, rfl⟩
  rw [hS] at hsl hw ⊢
  have hF2 : (Go.Sort.flatK evC 6 S.toArray).toList = flat evC S := by
    have := flatK_eq (k := 6) evC evC (fun x : Ev => x) (fun _ => rfl) (fun _ => rfl) S.toArray
    rw [this, List.map_id']
  have hfl2 : (flat evC S).length = S.length * 6 := flat_len (size := 6) (fun _ => rfl) S
  rw [← hsl]
  refine ⟨hfl2, .inr ⟨g, cap, _, rfl, hb, by rw [hw]; exact heap_sortedK evC 6 w g n S.toArray os hg, by rw [hsl]; exact hc1, hc2, by simp [Go.Sort.putCells, hc3], ?_⟩⟩
  have e1 : S.length * 6 = (Go.Sort.flatK evC 6 S.toArray).size := by rw [Go.Sort.size_flatK]; rfl
  rw [e1, take_put cur _ (by rw [Go.Sort.size_flatK, hc3]; show S.length * 6 ≤ _; omega), hF2]
set_option maxHeartbeats 2000000 in
theorem stable_small {w : World} {base g cap : Nat} {L : List Ev} (ho : OwnE0 w base (.slice (some ⟨g, 0, none⟩) L.length cap) L) (h0 : 0 < L.length) (hl : L.length < 20) :
    Calls Tryz.prog 55 #[.slice (some ⟨g, 0, none⟩) L.length cap, .func (.func 56) #[] #[]] w fun e w' => e = .returned (.tuple #[]) ∧ OwnE0 w' base (.slice (some ⟨g, 0, none⟩) L.length cap) (sortS tlt L) ∧ w.grownBy w' (some g) := by
  have HI := Lib.hid (insE_any ho h0 (by omega))
  have i1 : ¬ (20 : Int) ≤ (L.length : Int) := by omega
  have i2 : ¬ (20 : Int) < (L.length : Int) := by omega
  obtain ⟨N, hN⟩ : ∃ N, L.length = N := ⟨_, rfl⟩
  rw [hN] at HI i1 i2 ⊢
  have HST : Hid (Calls Tryz.prog 104 #[.slice (some ⟨g, 0, none⟩) N cap, .int .i64 N, .func (.func 56) #[] #[]] w fun e w' => e = .returned (.tuple #[]) ∧ OwnE0 w' base (.slice (some ⟨g, 0, none⟩) N cap) (sortS tlt L) ∧ w.grownBy w' (some g)) := by
    show Calls _ _ _ _ _
    clear ho h0 hl hN
    go_enter Tryz.func104, Tryz.ntmps104
    go_wp2_with fail
    go_loopw [7, 8] (fun a b wr => a = .int .i64 0 ∧ b = .int .i64 20 ∧ w = wr) (fun _ _ _ => 0)
    case atStart => exact ⟨rfl, rfl, rfl⟩
    case round =>
      obtain ⟨rfl, rfl, rfl⟩ := hrel
      go_wp2_with fail
      (with_reducible refine HI.out.mono ?_)
      rintro e w1 ⟨rfl, ho1, hg1⟩
      have HO1 := Lib.hid ho1
      have HG1 := Lib.hid hg1
      clear ho1 hg1
      go_wp2_with fail
      go_loopw [6] (fun a wr => a = .int .i64 20 ∧ w1 = wr) (fun _ _ => 0)
      case atStart => exact ⟨rfl, rfl⟩
      case round =>
        obtain ⟨rfl, rfl⟩ := hrel
        go_wp2_with fail
        go_end0
        exact ⟨rfl, HO1.out, HG1.out⟩
  clear ho h0 hl hN HI i1 i2
  go_enter Tryz.func55, Tryz.ntmps55
  go_wp2_with fail
  (with_reducible refine HST.out.mono ?_)
  rintro e w1 ⟨rfl, ho1, hg1⟩
  have HO1 := Lib.hid ho1
  have HG1 := Lib.hid hg1
  clear ho1 hg1
  go_wp2_with fail
  go_end0
  exact ⟨rfl, HO1.out, HG1.out⟩
end Go.Proofs.YtoalecalahkblaaGreatDoor
