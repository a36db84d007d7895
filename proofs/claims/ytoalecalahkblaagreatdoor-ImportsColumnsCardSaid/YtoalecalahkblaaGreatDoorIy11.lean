/- Texts of this seat, merged. -/
import Derived.Lib.OwnBridge
import Derived.Test.YtoalecalahkblaaGreatDoorIy01
import Derived.Test.YtoalecalahkblaaGreatDoorIy02
import Derived.Test.YtoalecalahkblaaGreatDoorIy03
import Derived.Test.YtoalecalahkblaaGreatDoorIy04
import Derived.Test.YtoalecalahkblaaGreatDoorIy05
import Derived.Test.YtoalecalahkblaaGreatDoorIy06
import Derived.Test.YtoalecalahkblaaGreatDoorIy07
import Derived.Test.YtoalecalahkblaaGreatDoorIy09
set_option linter.all false
set_option linter.all false
namespace Go.Proofs.YtoalecalahkblaaGreatDoor
open Go.RowKit
def hvF (f : Fld) : Bool := decide (100 < f.nm.size) || decide (300 < f.v.s.size)
def hvE (e : Ev) : Bool := (((decide (100 < e.cas.size) || decide (100 < e.act.size)) || decide (100 < e.res.size)) || decide (20 < e.data.length)) || e.data.any hvF
def heavyB (l : List Ev) : Bool := ((decide (40 < l.length) && decide (l.length ≤ 2000)) || decide (3000 < l.length)) || l.any hvE
theorem sizeI (n k : Nat) : decide (k < n) = decide ((k : Int) < (n : Int)) := decide_eq_decide.2 (by omega)
theorem hvF_any (f : Fld) (w : World) : Calls Tryz.prog 84 #[.agg #[.string f.nm, .int .i64 f.v.kind, .int .i64 f.v.n, .string f.v.s]] w fun e w' => e = .returned (.bool (hvF f)) ∧ Below w.heap.size w w' := by
  have HE : Hid (hvF f = (decide ((100 : Int) < (f.nm.size : Int)) || decide ((300 : Int) < (f.v.s.size : Int)))) := by
    show _ = _
    unfold hvF
    rw [sizeI, sizeI]; rfl
  have hB := Blk.new w 123 #[.string f.nm, .int .i64 f.v.kind, .int .i64 f.v.n, .string f.v.s]
  have HB := Lib.hid (bone w (.cells #[.string f.nm, .int .i64 f.v.kind, .int .i64 f.v.n, .string f.v.s] 123))
  obtain ⟨c0, c1, c2, c3⟩ := hB.c4
  obtain ⟨q1, hq1⟩ : ∃ q1, decide ((100 : Int) < (f.nm.size : Int)) = q1 := ⟨_, rfl⟩
  obtain ⟨q2, hq2⟩ : ∃ q2, decide ((300 : Int) < (f.v.s.size : Int)) = q2 := ⟨_, rfl⟩
  rw [hq1, hq2] at HE
  clear hB
  cases q1
  · go_enter Tryz.func84, Tryz.ntmps84
    go_wp2_with fail
    go_ret
    exact ⟨ret_bool (by rw [HE.out]; rfl), HB.out⟩
  · go_enter Tryz.func84, Tryz.ntmps84
    go_wp2_with fail
    go_ret
    exact ⟨ret_bool (by rw [HE.out]; rfl), HB.out⟩
set_option maxHeartbeats 1000000 in
theorem idxFld (k : FuncId) (cb : Array Value) (eg : ∀ args w, (callFunc k args).run Tryz.prog w = .ok (.enter k args) w) (tv : Value) (ts : List Fld) (p : Fld → Bool) (w : World) (ht : SlFl (Lt w.heap.size) w tv ts)
    (hf : ∀ (x : Fld) (W : World), x ∈ ts → Below w.heap.size w W → Calls Tryz.prog k (#[.agg #[.string x.nm, .int .i64 x.v.kind, .int .i64 x.v.n, .string x.v.s]] ++ cb) W fun e w' => e = .returned (.bool (p x)) ∧ Below W.heap.size W w') :
    Calls Tryz.prog 127 #[tv, .func (.func k) #[] cb] w fun e w' => e = .returned (.int .i64 (firstF p ts)) ∧ Below w.heap.size w w' := by
  obtain ⟨A, c, rfl, h1, h2, ht⟩ := ht.open_
  have HF := Lib.hid hf
  have HT := Lib.hid ht
  clear hf ht
  go_enter Tryz.func127, Tryz.ntmps127
  go_wp2_with fail
  go_loopw [8] (fun i wr => ∃ j : Nat, j ≤ ts.length ∧ i = .int .i64 j ∧ Hid (∀ (q : Nat) t, q < j → ts[q]? = some t → p t = false) ∧ Hid (Below w.heap.size w wr)) (fun i _ => ts.length - (intOf i).toNat)
  case atStart => exact ⟨0, Nat.zero_le _, rfl, Lib.hid (fun q _ h => absurd h (by omega)), Lib.hid (Below.refl _ _)⟩
  case round =>
    obtain ⟨j, hj, rfl, HP, HB⟩ := hrel
    by_cases hlt : j < ts.length
    · obtain ⟨b, o, t, rfl, hD, hx, _, r0, r1, r2, r3⟩ := SlFl.at_ HT.out hlt
      have c0 := (HB.out.cell (p := ⟨b, o + j * 4, none⟩) hD).trans r0
      have c1 := (HB.out.cell (p := ⟨b, o + j * 4 + 1, none⟩) hD).trans r1
      have c2 := (HB.out.cell (p := ⟨b, o + j * 4 + 2, none⟩) hD).trans r2
      have c3 := (HB.out.cell (p := ⟨b, o + j * 4 + 3, none⟩) hD).trans r3
      have hcall := HF.out t wr (List.mem_of_getElem? hx) HB.out
      have HX := Lib.hid hx
      clear hx r0 r1 r2 r3
      generalize hq : p t = q' at *
      have HQ := Lib.hid hq
      have HC := Lib.hid hcall
      clear hcall hq
      cases q'
      · go_wp2_with (go_at_fn k; (with_reducible refine HC.out.mono ?_); rintro e w' ⟨rfl, hb'⟩; have HB' := Lib.hid (bthen HB.out hb'); clear hb')
        go_roundw
        case rel =>
          refine ⟨j + 1, by omega, by go_num, Lib.hid (fun q y hq hy => ?_), HB'⟩
          by_cases e : q = j
          · subst e; rw [HX.out] at hy; injection hy with hy; subst hy; exact HQ.out
          · exact HP.out q y (by omega) hy
        case measure => simp [intOf]; omega
      · go_wp2_with (go_at_fn k; (with_reducible refine HC.out.mono ?_); rintro e w' ⟨rfl, hb'⟩; have HB' := Lib.hid (bthen HB.out hb'); clear hb')
        go_ret
        exact ⟨ret_int (firstF_hit HX.out HQ.out HP.out).symm, HB'.out⟩
    · go_wp2_with fail
      go_ret
      exact ⟨ret_int (firstF_miss (fun q y hq hy => HP.out q y (by omega) hy)).symm, HB.out⟩
end Go.Proofs.YtoalecalahkblaaGreatDoor

set_option linter.all false
namespace Go.Proofs.YtoalecalahkblaaGreatDoor
open Go.RowKit
theorem enters_hvF : ∀ args w, (callFunc 84 args).run Tryz.prog w = .ok (.enter 84 args) w := enters_of Tryz.func84 (by kernel_rfl) rfl
theorem enters_hvE : ∀ args w, (callFunc 82 args).run Tryz.prog w = .ok (.enter 82 args) w := enters_of Tryz.func82 (by kernel_rfl) rfl
theorem hvFs_any (v : Value) (ts : List Fld) (w : World) (ht : SlFl (Lt w.heap.size) w v ts) :
    Calls Tryz.prog 83 #[v, .func (.func 84) #[] #[]] w fun e w' => e = .returned (.bool (ts.any hvF)) ∧ Below w.heap.size w w' := by
  have HC := Lib.hid (idxFld 84 #[] enters_hvF v ts hvF w ht (fun x W _ _ => hvF_any x W))
  have HZ := Lib.hid (firstF_any hvF ts)
  generalize firstF hvF ts = z at *
  obtain ⟨A, c, rfl, h1, h2, _⟩ := ht.open_
  clear ht
  go_enter Tryz.func83, Tryz.ntmps83
  go_wp2_with fail
  (with_reducible refine HC.out.mono ?_)
  rintro e w' ⟨rfl, hb'⟩
  go_wp2_with fail
  go_ret
  exact ⟨by rw [← HZ.out]; rfl, hb'⟩
set_option maxHeartbeats 2000000 in
theorem hvE_any (e : Ev) (dv : Value) (w : World) (hd : SlFl (Lt w.heap.size) w dv e.data) : Calls Tryz.prog 82 #[.agg #[.string e.cas, .string e.act, .string e.res, .int .i64 e.life, .int .i64 e.time, dv]] w fun x w' => x = .returned (.bool (hvE e)) ∧ Below w.heap.size w w' := by
  have HE : Hid (hvE e = ((((decide ((100 : Int) < (e.cas.size : Int)) || decide ((100 : Int) < (e.act.size : Int))) || decide ((100 : Int) < (e.res.size : Int))) || decide ((20 : Int) < (e.data.length : Int))) || e.data.any hvF)) := by
    show _ = _
    unfold hvE
    rw [sizeI, sizeI, sizeI, sizeI]; rfl
  obtain ⟨A, c, rfl, h1, h2, hd⟩ := hd.open_
  have hB := Blk.new w 69 #[.string e.cas, .string e.act, .string e.res, .int .i64 e.life, .int .i64 e.time, .slice A e.data.length c]
  have hb := bone w (.cells #[.string e.cas, .string e.act, .string e.res, .int .i64 e.life, .int .i64 e.time, .slice A e.data.length c] 69)
  have HFS := Lib.hid (hvFs_any _ e.data _ (hd.now hb))
  have HB := Lib.hid hb
  obtain ⟨c0, c1, c2, c3, c4, c5⟩ := hB.c6
  obtain ⟨q1, hq1⟩ : ∃ q, decide ((100 : Int) < (e.cas.size : Int)) = q := ⟨_, rfl⟩
  obtain ⟨q2, hq2⟩ : ∃ q, decide ((100 : Int) < (e.act.size : Int)) = q := ⟨_, rfl⟩
  obtain ⟨q3, hq3⟩ : ∃ q, decide ((100 : Int) < (e.res.size : Int)) = q := ⟨_, rfl⟩
  obtain ⟨q4, hq4⟩ : ∃ q, decide ((20 : Int) < (e.data.length : Int)) = q := ⟨_, rfl⟩
  obtain ⟨q5, hq5⟩ : ∃ q, e.data.any hvF = q := ⟨_, rfl⟩
  rw [hq1, hq2, hq3, hq4, hq5] at HE
  rw [hq5] at HFS
  clear hB hb hd hq5
  cases q1
  · cases q2
    · cases q3
      · cases q4
        · go_enter Tryz.func82, Tryz.ntmps82
          go_wp2_with fail
          (with_reducible refine HFS.out.mono ?_)
          rintro _ w1 ⟨rfl, hb1⟩
          have HB1 := Lib.hid (bthen HB.out hb1)
          clear hb1
          go_wp2_with fail
          go_ret
          exact ⟨ret_bool (by rw [HE.out]; rfl), HB1.out⟩
        · go_enter Tryz.func82, Tryz.ntmps82
          go_wp2_with fail
          go_ret
          exact ⟨ret_bool (by rw [HE.out]; rfl), HB.out⟩
      · go_enter Tryz.func82, Tryz.ntmps82
        go_wp2_with fail
        go_ret
        exact ⟨ret_bool (by rw [HE.out]; rfl), HB.out⟩
    · go_enter Tryz.func82, Tryz.ntmps82
      go_wp2_with fail
      go_ret
      exact ⟨ret_bool (by rw [HE.out]; rfl), HB.out⟩
  · go_enter Tryz.func82, Tryz.ntmps82
    go_wp2_with fail
    go_ret
    exact ⟨ret_bool (by rw [HE.out]; rfl), HB.out⟩
set_option maxHeartbeats 1000000 in
theorem idxEv (k : FuncId) (cb : Array Value) (eg : ∀ args w, (callFunc k args).run Tryz.prog w = .ok (.enter k args) w) (tv : Value) (ts : List Ev) (p : Ev → Bool) (w : World) (ht : SlEv (Lt w.heap.size) w tv ts)
    (hf : ∀ (x : Ev) (dv : Value) (W : World), x ∈ ts → SlFl (Lt W.heap.size) W dv x.data → Below w.heap.size w W → Calls Tryz.prog k (#[.agg #[.string x.cas, .string x.act, .string x.res, .int .i64 x.life, .int .i64 x.time, dv]] ++ cb) W fun e w' => e = .returned (.bool (p x)) ∧ Below W.heap.size W w') :
    Calls Tryz.prog 126 #[tv, .func (.func k) #[] cb] w fun e w' => e = .returned (.int .i64 (firstF p ts)) ∧ Below w.heap.size w w' := by
  obtain ⟨A, c, rfl, h1, h2, ht⟩ := ht.open_
  have HF := Lib.hid hf
  have HT := Lib.hid ht
  clear hf ht
  go_enter Tryz.func126, Tryz.ntmps126
  go_wp2_with fail
  go_loopw [8] (fun i wr => ∃ j : Nat, j ≤ ts.length ∧ i = .int .i64 j ∧ Hid (∀ (q : Nat) t, q < j → ts[q]? = some t → p t = false) ∧ Hid (Below w.heap.size w wr)) (fun i _ => ts.length - (intOf i).toNat)
  case atStart => exact ⟨0, Nat.zero_le _, rfl, Lib.hid (fun q _ h => absurd h (by omega)), Lib.hid (Below.refl _ _)⟩
  case round =>
    obtain ⟨j, hj, rfl, HP, HB⟩ := hrel
    by_cases hlt : j < ts.length
    · obtain ⟨b, o, t, dv, rfl, hD, hx, _, hdv, r0, r1, r2, r3, r4, r5⟩ := SlEv.at_ HT.out hlt
      obtain ⟨Ad, cd, rfl, _, _, hdv⟩ := hdv.open_
      have c0 := (HB.out.cell (p := ⟨b, o + j * 6, none⟩) hD).trans r0
      have c1 := (HB.out.cell (p := ⟨b, o + j * 6 + 1, none⟩) hD).trans r1
      have c2 := (HB.out.cell (p := ⟨b, o + j * 6 + 2, none⟩) hD).trans r2
      have c3 := (HB.out.cell (p := ⟨b, o + j * 6 + 3, none⟩) hD).trans r3
      have c4 := (HB.out.cell (p := ⟨b, o + j * 6 + 4, none⟩) hD).trans r4
      have c5 := (HB.out.cell (p := ⟨b, o + j * 6 + 5, none⟩) hD).trans r5
      have hcall := HF.out t _ wr (List.mem_of_getElem? hx) (hdv.now HB.out) HB.out
      have HX := Lib.hid hx
      clear hx hdv r0 r1 r2 r3 r4 r5
      generalize hq : p t = q' at *
      have HQ := Lib.hid hq
      have HC := Lib.hid hcall
      clear hcall hq
      cases q'
      · go_wp2_with (go_at_fn k; (with_reducible refine HC.out.mono ?_); rintro e w' ⟨rfl, hb'⟩; have HB' := Lib.hid (bthen HB.out hb'); clear hb')
        go_roundw
        case rel =>
          refine ⟨j + 1, by omega, by go_num, Lib.hid (fun q y hq hy => ?_), HB'⟩
          by_cases e : q = j
          · subst e; rw [HX.out] at hy; injection hy with hy; subst hy; exact HQ.out
          · exact HP.out q y (by omega) hy
        case measure => simp [intOf]; omega
      · go_wp2_with (go_at_fn k; (with_reducible refine HC.out.mono ?_); rintro e w' ⟨rfl, hb'⟩; have HB' := Lib.hid (bthen HB.out hb'); clear hb')
        go_ret
        exact ⟨ret_int (firstF_hit HX.out HQ.out HP.out).symm, HB'.out⟩
    · go_wp2_with fail
      go_ret
      exact ⟨ret_int (firstF_miss (fun q y hq hy => HP.out q y (by omega) hy)).symm, HB.out⟩
theorem hvEs_any (v : Value) (ts : List Ev) (w : World) (ht : SlEv (Lt w.heap.size) w v ts) :
    Calls Tryz.prog 81 #[v, .func (.func 82) #[] #[]] w fun e w' => e = .returned (.bool (ts.any hvE)) ∧ Below w.heap.size w w' := by
  have HC := Lib.hid (idxEv 82 #[] enters_hvE v ts hvE w ht (fun x dv W _ hd _ => hvE_any x dv W hd))
  have HZ := Lib.hid (firstF_any hvE ts)
  generalize firstF hvE ts = z at *
  obtain ⟨A, c, rfl, h1, h2, _⟩ := ht.open_
  clear ht
  go_enter Tryz.func81, Tryz.ntmps81
  go_wp2_with fail
  (with_reducible refine HC.out.mono ?_)
  rintro e w' ⟨rfl, hb'⟩
  go_wp2_with fail
  go_ret
  exact ⟨by rw [← HZ.out]; rfl, hb'⟩
end Go.Proofs.YtoalecalahkblaaGreatDoor

set_option linter.all false
namespace Go.Proofs.YtoalecalahkblaaGreatDoor
open Go.RowKit
set_option maxHeartbeats 1000000 in
theorem heavy_any (u : Value) (l : List Ev) (w : World) (h : IsLog (Lt w.heap.size) w u l) :
    Calls Tryz.prog 33 #[u] w fun e w' => e = .returned (.bool (heavyB l)) ∧ Below w.heap.size w w' := by
  obtain ⟨ev, rfl, hs⟩ := h
  have HE : Hid (heavyB l = (((decide ((40 : Int) < (l.length : Int)) && decide ((l.length : Int) ≤ 2000)) || decide ((3000 : Int) < (l.length : Int))) || l.any hvE)) := by
    show _ = _
    unfold heavyB
    rw [sizeI, sizeI, show decide (l.length ≤ 2000) = decide ((l.length : Int) ≤ 2000) from decide_eq_decide.2 (by omega)]; rfl
  obtain ⟨A, c, rfl, h1, h2, hs⟩ := hs.open_
  have hB := Blk.new w 38 #[.slice A l.length c]
  have hb := bone w (.cells #[.slice A l.length c] 38)
  have HES := Lib.hid (hvEs_any _ l _ (hs.now hb))
  have HB := Lib.hid hb
  have c0 := hB.c1
  obtain ⟨q1, hq1⟩ : ∃ q, decide ((40 : Int) < (l.length : Int)) = q := ⟨_, rfl⟩
  obtain ⟨q2, hq2⟩ : ∃ q, decide ((l.length : Int) ≤ 2000) = q := ⟨_, rfl⟩
  obtain ⟨q3, hq3⟩ : ∃ q, decide ((3000 : Int) < (l.length : Int)) = q := ⟨_, rfl⟩
  obtain ⟨q4, hq4⟩ : ∃ q, l.any hvE = q := ⟨_, rfl⟩
  rw [hq1, hq2, hq3, hq4] at HE
  rw [hq4] at HES
  clear hB hb hs hq4
  cases q1 <;> cases q2 <;> cases q3 <;>
  · go_enter Tryz.func33, Tryz.ntmps33
    first
      | (go_wp2_with fail; go_ret; exact ⟨ret_bool (by rw [HE.out]; rfl), HB.out⟩)
      | (go_wp2_with fail
         (with_reducible refine HES.out.mono ?_)
         rintro _ w1 ⟨rfl, hb1⟩
         have HB1 := Lib.hid (bthen HB.out hb1)
         clear hb1
         go_wp2_with fail
         go_ret
         exact ⟨ret_bool (by rw [HE.out]; rfl), HB1.out⟩)
end Go.Proofs.YtoalecalahkblaaGreatDoor

set_option linter.all false
namespace Go.Proofs.YtoalecalahkblaaGreatDoor
open Go.RowKit
def greatB (m : Mp) : Bool := decide (30 < m.data.length) || decide (30 < m.kinds.length)
theorem great_any (u : Value) (m : Mp) (w : World) (h : IsMp (Lt w.heap.size) w u m) :
    Calls Tryz.prog 15 #[u] w fun e w' => e = .returned (.bool (greatB m)) ∧ Below w.heap.size w w' := by
  obtain ⟨dv, kv, rfl, _, hd, hk⟩ := h
  obtain ⟨Ad, cd, rfl, _, _, _⟩ := hd.open_
  obtain ⟨Ak, ck, rfl, _, _, _⟩ := hk.open_
  unfold mpV
  obtain ⟨z, hz⟩ : ∃ z, (m.sep.toNat : Int) = z := ⟨_, rfl⟩
  rw [hz]
  have hb := bone w (.cells #[.int .i64 m.cas, .int .i64 m.act, .int .i64 m.res, .int .i64 m.life, .int .i64 m.time, .slice Ad m.data.length cd, .slice Ak m.kinds.length ck, .int .u8 z] 33)
  have hB := Blk.new w 33 #[.int .i64 m.cas, .int .i64 m.act, .int .i64 m.res, .int .i64 m.life, .int .i64 m.time, .slice Ad m.data.length cd, .slice Ak m.kinds.length ck, .int .u8 z]
  have HB := Lib.hid hb
  have HE : Hid (greatB m = (decide ((30 : Int) < (m.data.length : Int)) || decide ((30 : Int) < (m.kinds.length : Int)))) := by
    show _ = _
    unfold greatB
    congr 1
    · exact decide_eq_decide.2 (by omega)
    · exact decide_eq_decide.2 (by omega)
  obtain ⟨q1, hq1⟩ : ∃ q1, decide ((30 : Int) < (m.data.length : Int)) = q1 := ⟨_, rfl⟩
  obtain ⟨q2, hq2⟩ : ∃ q2, decide ((30 : Int) < (m.kinds.length : Int)) = q2 := ⟨_, rfl⟩
  rw [hq1, hq2] at HE
  obtain ⟨c0, c1, c2, c3, c4, c5, c6, c7⟩ := hB.c8m
  clear hd hk hz hb hB
  go_enter Tryz.func15, Tryz.ntmps15
  cases q1
  · go_wp2_with fail
    go_ret
    exact ⟨ret_bool (by rw [HE.out]; rfl), HB.out⟩
  · go_wp2_with fail
    go_ret
    exact ⟨ret_bool (by rw [HE.out]; rfl), HB.out⟩
end Go.Proofs.YtoalecalahkblaaGreatDoor

set_option linter.all false
namespace Go.Proofs.YtoalecalahkblaaGreatDoor
open Go.RowKit
def xwCase : Bt := [99, 97, 115, 101]
def xwAct : Bt := [97, 99, 116, 105, 118, 105, 116, 121]
def xwTime : Bt := [116, 105, 109, 101]
def xwRes : Bt := [114, 101, 115, 111, 117, 114, 99, 101]
def xwLife : Bt := [108, 105, 102, 101]
def startH (m : Mp) (width : Nat) : List Bt := setZ (setZ (setZ (List.replicate width []) m.cas xwCase) m.act xwAct) m.time xwTime
def resH (m : Mp) (r : List Bt) : List Bt := if 0 ≤ m.res then setZ r m.res xwRes else r
def lifeH (m : Mp) (r : List Bt) : List Bt := if 0 ≤ m.life then setZ r m.life xwLife else r
def zipH (ps : List (Int × Bs)) (r : List Bt) : List Bt := ps.foldl (fun r p => setZ r p.1 p.2) r
theorem headX_eq (names : List Bs) (m : Mp) (width : Nat) : headX names m width = zipH (m.data.zip names) (lifeH m (resH m (startH m width))) := rfl
theorem zipH_len : ∀ (ps : List (Int × Bs)) (r : List Bt), (zipH ps r).length = r.length
  | [], r => rfl
  | p :: ps, r => by
    show (zipH ps (setZ r p.1 p.2)).length = _
    rw [zipH_len ps, setZ_len]
theorem zipH_le : ∀ (ps : List (Int × Bs)) (r : List Bt), (∀ p ∈ ps, p.2.length ≤ 1000000) → CLe r → CLe (zipH ps r)
  | [], r, _, h => h
  | p :: ps, r, hp, h => zipH_le ps _ (fun q hq => hp q (by simp [hq])) (h.setZ _ (hp p (by simp)))
theorem zipH_step {d : List Int} {names : List Bs} {i : Nat} {k : Int} {s : Bs} {r : List Bt} (hk : d[i]? = some k) (hs : names[i]? = some s) : zipH ((d.zip names).drop i) r = zipH ((d.zip names).drop (i + 1)) (setZ r k s) := by
  have h : (d.zip names)[i]? = some (k, s) := by rw [List.getElem?_zip_eq_some]; exact ⟨hk, hs⟩
  rw [drop_cons h]
  rfl
theorem headX_len {names : List Bs} {m : Mp} {width : Nat} : (headX names m width).length = width := by
  rw [headX_eq, zipH_len]
  unfold lifeH resH startH
  split <;> split <;> simp [setZ_len]
theorem headX_le {names : List Bs} {m : Mp} {width : Nat} (h : ∀ s ∈ names, s.length ≤ 1000000) : CLe (headX names m width) := by
  rw [headX_eq]
  have hst : CLe (startH m width) := (((cle_none width).setZ _ (by decide)).setZ _ (by decide)).setZ _ (by decide)
  have hre : CLe (resH m (startH m width)) := by
    unfold resH
    split
    · exact hst.setZ _ (by decide)
    · exact hst
  have hli : CLe (lifeH m (resH m (startH m width))) := by
    unfold lifeH
    split
    · exact hre.setZ _ (by decide)
    · exact hre
  exact zipH_le _ _ (fun p hp => h _ (List.of_mem_zip hp).2) hli
theorem names_mem {l : List Ev} {e : Ev} (he : e ∈ l) {f : Fld} (hf : f ∈ e.data) : nmOf f ∈ colsL l := by
  unfold colsL
  rw [setB_mem]
  unfold namesTo
  rw [List.take_of_length_le (Nat.le_refl _)]
  exact List.mem_flatMap.2 ⟨e, he, List.mem_map.2 ⟨f, hf, rfl⟩⟩
theorem names_le {l : List Ev} (h : logB l = true) : ∀ s ∈ colsL l, s.length ≤ 40 := by
  intro s hs
  unfold colsL at hs
  rw [setB_mem] at hs
  unfold namesTo at hs
  rw [List.take_of_length_le (Nat.le_refl _)] at hs
  obtain ⟨e, he, hs⟩ := List.mem_flatMap.1 hs
  obtain ⟨f, hf, rfl⟩ := List.mem_map.1 hs
  obtain ⟨i, hi⟩ := List.mem_iff_getElem?.1 he
  have := (evLe (logB_ev h hi)).flds f hf
  unfold fldB at this
  rw [Bool.and_eq_true] at this
  have := name_le this.1
  unfold nmOf
  rw [Array.length_toList]
  exact this
theorem fitN_of {l : List Ev} (h : logB l = true) : FitN l := by
  intro e he f hf
  have := names_le h _ (names_mem he hf)
  unfold nmOf at this
  rw [Array.length_toList] at this
  have h2 : f.nm.data.size = f.nm.size := rfl
  unfold maxLen; omega
theorem data_le {e : Ev} (h : evB e = true) : e.data.length ≤ 8 := by
  unfold evB at h
  simp only [Bool.and_eq_true, decide_eq_true_eq] at h
  exact h.1.2
theorem few_of {l : List Ev} (h : logB l = true) (hh : heavyB l = false) : l.length ≤ 40 := by
  unfold heavyB at hh
  simp only [Bool.or_eq_false_iff, Bool.and_eq_false_iff, decide_eq_false_iff_not] at hh
  unfold logB at h
  rw [Bool.and_eq_true] at h
  have := of_decide_eq_true h.1
  omega
theorem flatM_le {α β : Type} (f : α → List β) (k : Nat) : ∀ l : List α, (∀ x ∈ l, (f x).length ≤ k) → (l.flatMap f).length ≤ l.length * k
  | [], _ => by simp
  | x :: l, h => by
    rw [List.flatMap_cons, List.length_append, List.length_cons, Nat.add_mul]
    have h1 := h x (by simp)
    have h2 := flatM_le f k l fun y hy => h y (by simp [hy])
    omega
theorem namesTo_le1000 {l : List Ev} (h : logB l = true) (hh : heavyB l = false) : (namesTo l l.length).length ≤ 1000 := by
  have h1 := few_of h hh
  unfold namesTo
  rw [List.take_of_length_le (Nat.le_refl _)]
  have h2 := flatM_le namesE 8 l fun e he => by
    obtain ⟨i, hi⟩ := List.mem_iff_getElem?.1 he
    unfold namesE
    rw [List.length_map]
    exact data_le (logB_ev h hi)
  omega
def RowsOk (wd : Nat) (acc : List (List Bt)) : Prop := ∀ r ∈ acc, r.length = wd ∧ CLe r
theorem RowsOk.push {wd : Nat} {acc : List (List Bt)} (h : RowsOk wd acc) {r : List Bt} (hl : r.length = wd) (hc : CLe r) : RowsOk wd (acc ++ [r]) := by
  intro x hx
  rcases List.mem_append.1 hx with hx | hx
  · exact h x hx
  · rw [List.mem_singleton] at hx; rw [hx]; exact ⟨hl, hc⟩
end Go.Proofs.YtoalecalahkblaaGreatDoor

set_option linter.all false
namespace Go.Proofs.YtoalecalahkblaaGreatDoor
open Go.RowKit
theorem own_mono {w : World} {base base' e size n : Nat} {v : Value} {xs : List Value} (h : w.ownsRow base e size v n xs) (hb : base' ≤ base) : w.ownsRow base' e size v n xs := by
  refine ⟨h.1, ?_⟩
  rcases h.2 with h' | ⟨g', c', cur, e, h1, h2⟩
  · exact .inl h'
  · exact .inr ⟨g', c', cur, e, Nat.le_trans hb h1, h2⟩
theorem delete_own (m : Mp) (w : World) :
    Calls Tryz.prog 121 #[.slice (some ⟨w.heap.size, 0, none⟩) 5 5, .func (.func 122) #[] #[]] (w.alloc (.cells #[.int .i64 m.cas, .int .i64 m.act, .int .i64 m.res, .int .i64 m.life, .int .i64 m.time] 3))
      fun e w' => ∃ v, e = .returned v ∧ OwnZ w' w.heap.size v (fieldsB m) ∧ Below w.heap.size w w' := by
  have hB := Blk.new w 3 #[.int .i64 m.cas, .int .i64 m.act, .int .i64 m.res, .int .i64 m.life, .int .i64 m.time]
  have hb := bone w (.cells #[.int .i64 m.cas, .int .i64 m.act, .int .i64 m.res, .int .i64 m.life, .int .i64 m.time] 3)
  have hown := World.ownsRow_lit (base := w.heap.size) (e := 3) (size := 1) w #[.int .i64 m.cas, .int .i64 m.act, .int .i64 m.res, .int .i64 m.life, .int .i64 m.time] 5 (Nat.le_refl _) (by decide) rfl
  obtain ⟨w1, hw1⟩ : ∃ w1, w.alloc (.cells #[.int .i64 m.cas, .int .i64 m.act, .int .i64 m.res, .int .i64 m.life, .int .i64 m.time] 3) = w1 := ⟨_, rfl⟩
  rw [hw1] at hB hb hown ⊢
  clear hw1
  obtain ⟨g, hg⟩ : ∃ g, w.heap.size = g := ⟨_, rfl⟩
  rw [hg] at hB hb hown ⊢
  have hpred : Go.Proofs.PredAt Tryz.prog 122 #[] (Value.int .i64) (fun k => decide (k < 0)) w1 := fun W x _ => (neg_any x W).mono fun e w' ⟨h1, h2⟩ => ⟨h1, 0, h2.symm⟩
  have hover : Go.Proofs.PredOver Tryz.prog 122 #[] (Value.int .i64) (fun k => decide (k < 0)) g 0 5 w1 := fun n os dk x _ => (neg_any x _).mono fun e w' ⟨h1, h2⟩ => ⟨h1, 0, h2.symm⟩
  have hH : Go.Sort.Holds (Value.int .i64) w1 g 0 #[m.cas, m.act, m.res, m.life, m.time] := by
    intro j hj
    refine ⟨?_, hB.frozen _⟩
    have hc := hB.cell (0 + j)
    rw [hc]
    match j, hj with
    | 0, _ => rfl
    | 1, _ => rfl
    | 2, _ => rfl
    | 3, _ => rfl
    | 4, _ => rfl
  have h := Tryz.slices_DeleteFunc (Value.int .i64) (fun _ => rfl) (fun k => decide (k < 0)) 122 #[] enters_neg 0 Tryz.zeroValue3 g 0 5 #[m.cas, m.act, m.res, m.life, m.time] w1 hpred hover hH (by simp) (by simp)
  have hfl : (#[m.cas, m.act, m.res, m.life, m.time].toList.filter fun x => !decide (x < 0)) = fieldsB m := fields_filter m
  rw [hfl] at h
  have hlen := fieldsB_len m
  refine Calls.mono h fun e w' ⟨he, q, hw⟩ => ?_
  have hl : (fieldsB m ++ List.replicate (#[m.cas, m.act, m.res, m.life, m.time].size - (fieldsB m).length) (0 : Int)).length = 5 := by
    simp
    omega
  have ho := Lib.ownsRow_putRow (enc := Value.int .i64) (q := q) (k := (fieldsB m).length) (zs := [m.cas, m.act, m.res, m.life, m.time]) (ys := fieldsB m ++ List.replicate (#[m.cas, m.act, m.res, m.life, m.time].size - (fieldsB m).length) 0) hown hl hlen
  have hbw := Lib.below_putRow (enc := Value.int .i64) (q := q) (d := (fieldsB m ++ List.replicate (#[m.cas, m.act, m.res, m.life, m.time].size - (fieldsB m).length) (0 : Int)).toArray) hb (Nat.le_refl g)
  rw [List.take_left' rfl] at ho
  rw [← hw] at ho hbw
  exact ⟨_, he, ho, hbw⟩
set_option maxHeartbeats 2000000 in
theorem fields_own (u : Value) (m : Mp) (w : World) (h : IsMp (Lt w.heap.size) w u m) :
    Calls Tryz.prog 75 #[u] w fun e w' => ∃ v, e = .returned v ∧ OwnZ w' w.heap.size v (fieldsB m) ∧ Below w.heap.size w w' := by
  obtain ⟨dv, kv, rfl, hfm, hd, hk⟩ := h
  have HD := Lib.hid (delete_own m)
  obtain ⟨Ad, cd, rfl, _, _, hd⟩ := hd.open_
  obtain ⟨Ak, ck, rfl, _, _, hk⟩ := hk.open_
  obtain ⟨z, hz⟩ : ∃ z, (m.sep.toNat : Int) = z := ⟨_, rfl⟩
  unfold mpV
  rw [hz]
  clear hfm hd hk hz
  have HB1 := Lib.hid (bone w (.cells #[.int .i64 m.cas, .int .i64 m.act, .int .i64 m.res, .int .i64 m.life, .int .i64 m.time, .slice Ad m.data.length cd, .slice Ak m.kinds.length ck, .int .u8 z] 33))
  have HM1 := Lib.hid (Blk.new w 33 #[.int .i64 m.cas, .int .i64 m.act, .int .i64 m.res, .int .i64 m.life, .int .i64 m.time, .slice Ad m.data.length cd, .slice Ak m.kinds.length ck, .int .u8 z])
  go_enter Tryz.func75, Tryz.ntmps75
  go_upto_region 1 with fail
  obtain ⟨w1, hw1⟩ : ∃ w1, w.alloc (.cells #[.int .i64 m.cas, .int .i64 m.act, .int .i64 m.res, .int .i64 m.life, .int .i64 m.time, .slice Ad m.data.length cd, .slice Ak m.kinds.length ck, .int .u8 z] 33) = w1 := ⟨_, rfl⟩
  rw [hw1] at HB1 HM1 ⊢
  clear hw1
  obtain ⟨c0, c1, c2, c3, c4, c5, c6, c7⟩ := HM1.out.c8m
  have HDW := Lib.hid (HD.out w1)
  clear HD
  go_wp2_with fail
  (with_reducible refine HDW.out.mono ?_)
  rintro _ w2 ⟨v, rfl, ho, hb⟩
  have HO := Lib.hid ho
  have HB2 := Lib.hid (bthen HB1.out hb)
  have HS1 : Hid (w.heap.size ≤ w1.heap.size) := HB1.out.size
  clear ho hb
  go_wp2_with fail
  go_ret
  exact ⟨_, rfl, own_mono HO.out HS1.out, HB2.out⟩
theorem max_any (v : Value) (base : Nat) (zs : List Int) (w : World) (h : OwnZ w base v zs) (hn : 0 < zs.length) (hb : zs.length ≤ 1000) : Calls Tryz.prog 87 #[v] w fun e w' => e = .returned (.int .i64 (Lib.maxOf zs)) ∧ w' = w := by
  rcases h.2 with ⟨_, h0⟩ | ⟨g, cap, cur, rfl, hbase, hg, hc, hm, hs, ht⟩
  · omega
  · have hcell : ∀ j, j < zs.length → w.cell? ⟨g, 0 + j, none⟩ = some (.int .i64 (zs.getD j 0)) := by
      intro j hj
      rw [Nat.zero_add, World.ownsRow.cellAt h j (by simpa using hj)]
      simp [hj]
    have := Tryz.slices_Max_int g 0 zs.length cap zs w hn (Nat.le_refl _) (by omega) hcell
    rw [List.take_of_length_le (Nat.le_refl _)] at this
    exact this
end Go.Proofs.YtoalecalahkblaaGreatDoor

set_option linter.all false
namespace Go.Proofs.YtoalecalahkblaaGreatDoor
open Go.RowKit
set_option maxHeartbeats 4000000 in
set_option maxRecDepth 100000 in
theorem header_none (r : List Bt) (rv u : Value) (m : Mp) (w : World) (hr : SlP (Lt w.heap.size) w rv r) (h : IsMp (Lt w.heap.size) w u m) (hd0 : m.data = []) (hcol : ∀ k ∈ fieldsB m, k < (r.length : Int)) :
    Calls Tryz.prog 53 #[rv, u] w fun e w' => e = .returned (.tuple #[.agg #[.int .i64 0, .int .i64 0], .int .i64 0]) ∧ Below w.heap.size w w' := by
  obtain ⟨Ar, cr, rfl, _, _, hr⟩ := hr.open_
  have HF := Lib.hid (fun W hW => fields_any u m W hW)
  have HM := Lib.hid h
  have HCOL := Lib.hid hcol
  obtain ⟨dv, kv, rfl, hfm, hd, hk⟩ := h
  obtain ⟨Ad, cd, rfl, _, _, hd⟩ := hd.open_
  obtain ⟨Ak, ck, rfl, _, _, hk⟩ := hk.open_
  have hdl : m.data.length = 0 := by rw [hd0]; rfl
  rw [hdl] at HM HF ⊢
  obtain ⟨z, hz⟩ : ∃ z, (m.sep.toNat : Int) = z := ⟨_, rfl⟩
  unfold mpV at HM HF ⊢
  rw [hz] at HM HF ⊢
  clear hfm hd hk hz hdl hd0 hcol hr
  -- the boxes
  have hb1 := bone w (.cells #[.slice Ar r.length cr] 51)
  have hB1 := Blk.new w 51 #[.slice Ar r.length cr]
  have hs1 : (w.alloc (.cells #[.slice Ar r.length cr] 51)).heap.size = w.heap.size + 1 := by simp
  obtain ⟨w1, hw1⟩ : ∃ w1, w.alloc (.cells #[.slice Ar r.length cr] 51) = w1 := ⟨_, rfl⟩
  rw [hw1] at hb1 hB1 hs1
  have hb2 := bone w1 (.cells #[.int .i64 m.cas, .int .i64 m.act, .int .i64 m.res, .int .i64 m.life, .int .i64 m.time, .slice Ad 0 cd, .slice Ak m.kinds.length ck, .int .u8 z] 33)
  have hB2 := Blk.new w1 33 #[.int .i64 m.cas, .int .i64 m.act, .int .i64 m.res, .int .i64 m.life, .int .i64 m.time, .slice Ad 0 cd, .slice Ak m.kinds.length ck, .int .u8 z]
  have hs2 : (w1.alloc (.cells #[.int .i64 m.cas, .int .i64 m.act, .int .i64 m.res, .int .i64 m.life, .int .i64 m.time, .slice Ad 0 cd, .slice Ak m.kinds.length ck, .int .u8 z] 33)).heap.size = w.heap.size + 2 := by simp [hs1]
  rw [hs1] at hB2
  obtain ⟨w2, hw2⟩ : ∃ w2, w1.alloc (.cells #[.int .i64 m.cas, .int .i64 m.act, .int .i64 m.res, .int .i64 m.life, .int .i64 m.time, .slice Ad 0 cd, .slice Ak m.kinds.length ck, .int .u8 z] 33) = w2 := ⟨_, rfl⟩
  rw [hw2] at hb2 hB2 hs2
  have hb3 := bone w2 (.cells #[.int .i64 0, .int .i64 0] 40)
  have hB3 := Blk.new w2 40 #[.int .i64 0, .int .i64 0]
  rw [hs2] at hB3
  obtain ⟨w3, hw3⟩ : ∃ w3, w2.alloc (.cells #[.int .i64 0, .int .i64 0] 40) = w3 := ⟨_, rfl⟩
  have HB3 : Hid (Below w.heap.size w w3) := by rw [← hw3]; exact bthen (bthen hb1 hb2) hb3
  have HR3 : Hid (Blk w3 w.heap.size 51 #[.slice Ar r.length cr]) := by rw [← hw3]; exact (hB1.now hb2).now hb3
  have HM3 : Hid (Blk w3 (w.heap.size + 1) 33 #[.int .i64 m.cas, .int .i64 m.act, .int .i64 m.res, .int .i64 m.life, .int .i64 m.time, .slice Ad 0 cd, .slice Ak m.kinds.length ck, .int .u8 z]) := by rw [← hw3]; exact hB2.now hb3
  have HP3 : Hid (Blk w3 (w.heap.size + 2) 40 #[.int .i64 0, .int .i64 0]) := by rw [← hw3]; exact hB3
  have HW : Hid (((w.alloc (.cells #[.slice Ar r.length cr] 51)).alloc (.cells #[.int .i64 m.cas, .int .i64 m.act, .int .i64 m.res, .int .i64 m.life, .int .i64 m.time, .slice Ad 0 cd, .slice Ak m.kinds.length ck, .int .u8 z] 33)).alloc (.cells #[.int .i64 0, .int .i64 0] 40) = w3) := by show _ = _; rw [hw1, hw2, hw3]
  clear hb1 hB1 hs1 hw1 hb2 hB2 hs2 hw2 hb3 hB3 hw3
  go_enter Tryz.func53, Tryz.ntmps53
  go_upto_region 1 with fail
  rw [HW.out]
  clear HW
  have HFW := Lib.hid (HF.out w3 (HM.out.now HB3.out))
  obtain ⟨c0, c1, c2, c3, c4, c5, c6, c7⟩ := HM3.out.c8m
  go_wp2_with fail
  (with_reducible refine HFW.out.mono ?_)
  rintro _ w4 ⟨v, rfl, hs, hb⟩
  obtain ⟨Af, cf, rfl, _, _, hs⟩ := hs.open_
  have HS4 := Lib.hid hs
  have HB4 := Lib.hid (bthen HB3.out hb)
  have HR4 := Lib.hid (HR3.out.now hb)
  have HM4 := Lib.hid (HM3.out.now hb)
  have HP4 := Lib.hid (HP3.out.now hb)
  clear hs hb HFW HF c0 c1 c2 c3 c4 c5 c6 c7 HR3 HM3 HP3 HB3
  generalize fieldsB m = fs at *
  have r0 := HR4.out.c1
  go_wp2_with fail
  go_loopw [14] (fun iv wr => ∃ k : Nat, iv = .int .i64 (k : Int) ∧ k ≤ fs.length ∧ w4 = wr) (fun iv _ => fs.length - (intOf iv).toNat)
  case atStart => exact ⟨0, rfl, Nat.zero_le _, rfl⟩
  case round =>
    obtain ⟨k, rfl, hk, rfl⟩ := hrel
    by_cases hlt : k < fs.length
    · obtain ⟨b, o, x, rfl, hD, hx, _, d0⟩ := SlI.at_ HS4.out hlt
      have hxl := HCOL.out x (List.mem_of_getElem? hx)
      have hxl' : ¬ (r.length : Int) ≤ x := by omega
      clear hx hxl
      go_wp2_with fail
      go_roundw
      case rel => exact ⟨k + 1, by go_num, by omega, trivial⟩
      case measure => simp [intOf]; omega
    · obtain ⟨c0, c1, c2, c3, c4, c5, c6, c7⟩ := HM4.out.c8m
      obtain ⟨p0, p1⟩ := HP4.out.c2
      have f0 := HP4.out.frozen 0
      have f1 := HP4.out.frozen 1
      go_wp2_with fail
      go_loopw [29] (fun iv wr => iv = .int .i64 0 ∧ w4 = wr) (fun _ _ => 0)
      case atStart => exact ⟨rfl, rfl⟩
      case round =>
        obtain ⟨rfl, rfl⟩ := hrel
        go_wp2_with fail
        have hz := HP4.out.set_ 0 (.int .i64 0)
        have hz2 := hz.set_ 1 (.int .i64 0)
        have hbz := (HB4.out.setCell (p := ⟨w.heap.size + 2, 0, none⟩) (show w.heap.size ≤ w.heap.size + 2 by omega) (.int .i64 0)).setCell (p := ⟨w.heap.size + 2, 1, none⟩) (show w.heap.size ≤ w.heap.size + 2 by omega) (.int .i64 0)
        have hz3 : Blk ((w4.setCell ⟨w.heap.size + 2, 0, none⟩ (.int .i64 0)).setCell ⟨w.heap.size + 2, 1, none⟩ (.int .i64 0)) (w.heap.size + 2) 40 #[.int .i64 0, .int .i64 0] := hz2
        obtain ⟨r0, r1⟩ := hz3.c2
        generalize (w4.setCell ⟨w.heap.size + 2, 0, none⟩ (.int .i64 0)).setCell ⟨w.heap.size + 2, 1, none⟩ (.int .i64 0) = wz at *
        refine bodyPost_ret (v := .tuple #[.agg #[.int .i64 0, .int .i64 0], .int .i64 0]) (by simp [results, Tryz.results53, go_sem, r0, r1]) rfl ?_
        exact ⟨rfl, hbz⟩
end Go.Proofs.YtoalecalahkblaaGreatDoor
