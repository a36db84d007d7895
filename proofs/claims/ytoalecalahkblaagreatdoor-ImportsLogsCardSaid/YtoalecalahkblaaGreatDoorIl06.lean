/- Texts of this seat, merged. -/
import Derived.Test.YtoalecalahkblaaGreatDoorProg
import Derived.Outline
import Derived.Shelf.Abstract
import Derived.StillTailTactics
import Derived.RegionTactic
import Derived.Deep.CutRange
import Derived.Deep.CutBlock
import Derived.Test.YtoalecalahkblaaGreatDoorIl01
import Derived.Test.YtoalecalahkblaaGreatDoorIl02
import Derived.Test.YtoalecalahkblaaGreatDoorIl03
import Derived.Test.YtoalecalahkblaaGreatDoorIl04
import Derived.Test.YtoalecalahkblaaGreatDoorIl05
set_option linter.all false
set_option linter.all false
namespace Go.Proofs.YtoalecalahkblaaGreatDoor
open Go.RowKit
def txtV (s : ByteArray) : Val := ⟨3, 0, s⟩
def datE (s : ByteArray) (k : Int) : Val × Int :=
  if k = 3 then (if validV (txtV s) then (txtV s, 0) else (noV, 11))
  else if (parseE s).2 ≠ 0 ∨ (parseE s).1.kind ≠ k then (noV, 11) else ((parseE s).1, 0)
def RetVE (p : Val × Int) (w : World) (e : Ending) (w' : World) : Prop := e = .returned (.tuple #[valV p.1, .int .i64 p.2]) ∧ Below w.heap.size w w'
set_option maxHeartbeats 4000000 in
theorem datum_any (s : ByteArray) (k : Int) (w : World) (hs : s.size ≤ 1000000) (hk : Fit k) (ha : AmbP w) :
    Calls Tryz.prog 100 #[.string s, .int .i64 k] w (RetVE (datE s k) w) := by
  have HAM := Lib.hid ha
  have HSZ := Lib.hid hs
  have hb1 := bone w (.cells #[.int .i64 0, .int .i64 0, .string ⟨#[]⟩] 121)
  have hB1 := Blk.new w 121 #[.int .i64 0, .int .i64 0, .string ⟨#[]⟩]
  have hs1 : (w.alloc (.cells #[.int .i64 0, .int .i64 0, .string ⟨#[]⟩] 121)).heap.size = w.heap.size + 1 := by simp
  obtain ⟨w1, hw1⟩ : ∃ w1, w.alloc (.cells #[.int .i64 0, .int .i64 0, .string ⟨#[]⟩] 121) = w1 := ⟨_, rfl⟩
  rw [hw1] at hb1 hB1 hs1
  have HW := Lib.hid hw1
  have HB1 := Lib.hid hB1
  have HBW := Lib.hid hb1
  have HS1 := Lib.hid hs1
  clear hw1 hB1 hb1 hs1 ha hs hk
  -- what is stored at the end
  have HST : Hid (∀ (W : World) (v : Val) (e : Int), Below w1.heap.size w1 W → ∃ t0 t1 t2, True) := fun _ _ _ _ => ⟨0, 0, 0, trivial⟩
  clear HST
  go_enter Tryz.func100, Tryz.ntmps100
  go_upto_region 1 with fail
  rw [HW.out]
  clear HW
  by_cases h3 : k = 3
  · subst h3
    have HE : Hid (datE s 3 = if validV (txtV s) then (txtV s, 0) else (noV, 11)) := if_pos rfl
    have HF : Hid (FitV (txtV s)) := ⟨by simp [txtV, Fit], by simp [txtV, Fit], by have := HSZ.out; show s.size ≤ maxLen; unfold maxLen; omega⟩
    have HV := Lib.hid (fun W => validV_any (txtV s) W HF.out)
    have HB2 := Lib.hid (bone w1 (.cells #[.int .i64 3, .int .i64 0, .string s] 121))
    have HN2 := Lib.hid (Blk.new w1 121 #[.int .i64 3, .int .i64 0, .string s])
    obtain ⟨w2, hw2⟩ : ∃ w2, w1.alloc (.cells #[.int .i64 3, .int .i64 0, .string s] 121) = w2 := ⟨_, rfl⟩
    rw [hw2] at HB2 HN2
    have HW2 := Lib.hid hw2
    clear hw2
    obtain ⟨b1, hb1⟩ : ∃ b1, w1.heap.size = b1 := ⟨_, rfl⟩
    have HQ := Lib.hid hb1
    rw [hb1] at HN2
    clear hb1
    obtain ⟨q, hq⟩ : ∃ q, validV (txtV s) = q := ⟨_, rfl⟩
    have HV2 := HV.out
    unfold valV txtV at HV2
    rw [show validV ⟨3, 0, s⟩ = q from hq] at HV2
    have HV3 := Lib.hid HV2
    rw [hq] at HE
    clear hq HV HV2
    go_upto_region 3 with fail
    rw [HW2.out, HQ.out]
    clear HW2 HQ
    obtain ⟨y0, y1, y2⟩ := HN2.out.c3
    go_wp2_with fail
    (with_reducible refine (HV3.out _).mono ?_)
    rintro e w3 ⟨rfl, hb3⟩
    have HR3 := Lib.hid ((HB1.out.now HB2.out).now hb3)
    have HN3 := Lib.hid (HN2.out.now hb3)
    have HBW3 := Lib.hid (bthen (bthen HBW.out HB2.out) hb3)
    clear y0 y1 y2 HV3 hb3 HB1 HN2 HBW
    obtain ⟨x0, x1, x2⟩ := HR3.out.c3
    obtain ⟨y0, y1, y2⟩ := HN3.out.c3
    have k0 := HR3.out.frozen 0
    have k1 := HR3.out.frozen 1
    have k2 := HR3.out.frozen 2
    cases q
    · go_wp2_with fail
      obtain ⟨t0, t1, t2⟩ := (HR3.out.set3 (.int .i64 0) (.int .i64 0) (.string ⟨#[]⟩)).c3
      refine bodyPost_ret (v := .tuple #[.agg #[.int .i64 0, .int .i64 0, .string ⟨#[]⟩], .int .i64 11]) (by simp [results, Tryz.results100, go_sem, t0, t1, t2]) rfl ?_
      show RetVE _ _ _ _
      rw [HE.out]
      exact ⟨rfl, bset3 HBW3.out (Nat.le_refl _) _ _ _⟩
    · go_wp2_with fail
      obtain ⟨t0, t1, t2⟩ := (HR3.out.set3 (.int .i64 3) (.int .i64 0) (.string s)).c3
      refine bodyPost_ret (v := .tuple #[.agg #[.int .i64 3, .int .i64 0, .string s], .int .i64 0]) (by simp [results, Tryz.results100, go_sem, t0, t1, t2]) rfl ?_
      show RetVE _ _ _ _
      rw [HE.out]
      exact ⟨rfl, bset3 HBW3.out (Nat.le_refl _) _ _ _⟩
  have HE : Hid (datE s k = if (parseE s).2 ≠ 0 ∨ (parseE s).1.kind ≠ k then (noV, 11) else ((parseE s).1, 0)) := if_neg h3
  have HP := Lib.hid (parse_any s w1 HSZ.out (HAM.out.now HBW.out))
  unfold ParsePost at HP
  generalize parseE s = p at *
  obtain ⟨v, z⟩ := p
  dsimp only at *
  unfold valV at HP
  have h3' : (k == 3) = false := beq_false_of_ne h3
  clear h3
  go_wp2_with fail
  (with_reducible refine HP.out.mono ?_)
  rintro e w2 ⟨rfl, hb2⟩
  have HR2 := Lib.hid (HB1.out.now hb2)
  have HBW2 := Lib.hid (bthen HBW.out hb2)
  clear HP HB1 HBW hb2
  have HB3 := Lib.hid (bone w2 (.cells #[.int .i64 v.kind, .int .i64 v.n, .string v.s] 121))
  have HN3 := Lib.hid (Blk.new w2 121 #[.int .i64 v.kind, .int .i64 v.n, .string v.s])
  obtain ⟨w3, hw3⟩ : ∃ w3, w2.alloc (.cells #[.int .i64 v.kind, .int .i64 v.n, .string v.s] 121) = w3 := ⟨_, rfl⟩
  rw [hw3] at HB3 HN3
  have HW3 := Lib.hid hw3
  clear hw3
  obtain ⟨b1, hb1⟩ : ∃ b1, w2.heap.size = b1 := ⟨_, rfl⟩
  have HQ := Lib.hid hb1
  clear hb1
  rw [HQ.out] at HN3
  go_upto_region 7 with fail
  rw [HW3.out, HQ.out]
  clear HW3 HQ
  have HR3 := Lib.hid (HR2.out.now HB3.out)
  have HBW3 := Lib.hid (bthen HBW2.out HB3.out)
  clear HR2 HBW2 HB3
  obtain ⟨x0, x1, x2⟩ := HR3.out.c3
  obtain ⟨y0, y1, y2⟩ := HN3.out.c3
  have k0 := HR3.out.frozen 0
  have k1 := HR3.out.frozen 1
  have k2 := HR3.out.frozen 2
  by_cases hz : z = 0
  · by_cases hk : v.kind = k
    · have HF : Hid (datE s k = (v, 0)) := by show _ = _; rw [HE.out, if_neg (by simp [hz, hk])]
      have z1 : (z != 0) = false := by rw [hz]; rfl
      have z2 : (v.kind != k) = false := by rw [hk]; simp
      clear hz hk HE
      go_wp2_with fail
      obtain ⟨t0, t1, t2⟩ := (HR3.out.set3 (.int .i64 v.kind) (.int .i64 v.n) (.string v.s)).c3
      refine bodyPost_ret (v := .tuple #[.agg #[.int .i64 v.kind, .int .i64 v.n, .string v.s], .int .i64 0]) (by simp [results, Tryz.results100, go_sem, t0, t1, t2]) rfl ?_
      show RetVE _ _ _ _
      rw [HF.out]
      exact ⟨rfl, bset3 HBW3.out (Nat.le_refl _) _ _ _⟩
    · have HF : Hid (datE s k = (noV, 11)) := by show _ = _; rw [HE.out, if_pos (.inr hk)]
      have z1 : (z != 0) = false := by rw [hz]; rfl
      have z2 : (v.kind != k) = true := by simpa using hk
      clear hz hk HE
      go_wp2_with fail
      obtain ⟨t0, t1, t2⟩ := (HR3.out.set3 (.int .i64 0) (.int .i64 0) (.string ⟨#[]⟩)).c3
      refine bodyPost_ret (v := .tuple #[.agg #[.int .i64 0, .int .i64 0, .string ⟨#[]⟩], .int .i64 11]) (by simp [results, Tryz.results100, go_sem, t0, t1, t2]) rfl ?_
      show RetVE _ _ _ _
      rw [HF.out]
      exact ⟨rfl, bset3 HBW3.out (Nat.le_refl _) _ _ _⟩
  · have HF : Hid (datE s k = (noV, 11)) := by show _ = _; rw [HE.out, if_pos (.inl hz)]
    have z1 : (z != 0) = true := by simpa using hz
    clear hz HE
    go_wp2_with fail
    obtain ⟨t0, t1, t2⟩ := (HR3.out.set3 (.int .i64 0) (.int .i64 0) (.string ⟨#[]⟩)).c3
    refine bodyPost_ret (v := .tuple #[.agg #[.int .i64 0, .int .i64 0, .string ⟨#[]⟩], .int .i64 11]) (by simp [results, Tryz.results100, go_sem, t0, t1, t2]) rfl ?_
    show RetVE _ _ _ _
    rw [HF.out]
    exact ⟨rfl, bset3 HBW3.out (Nat.le_refl _) _ _ _⟩
end Go.Proofs.YtoalecalahkblaaGreatDoor

set_option linter.all false
namespace Go.Proofs.YtoalecalahkblaaGreatDoor
open Go.RowKit
def firstF {α : Type} (p : α → Bool) (xs : List α) : Int := match xs.findIdx? p with
  | some i => (i : Int)
  | none => -1
theorem firstF_hit {α : Type} {p : α → Bool} {xs : List α} {j : Nat} {x : α} (hx : xs[j]? = some x) (hp : p x = true) (hb : ∀ (q : Nat) t, q < j → xs[q]? = some t → p t = false) : firstF p xs = (j : Int) := by
  obtain ⟨hj, e⟩ := List.getElem?_eq_some_iff.1 hx
  have : xs.findIdx? p = some j := List.findIdx?_eq_some_iff_getElem.2 ⟨hj, by rw [e]; exact hp, fun q hq => by
    have := hb q xs[q] hq (List.getElem?_eq_getElem (by omega))
    rw [this]; decide⟩
  unfold firstF; rw [this]
theorem firstF_miss {α : Type} {p : α → Bool} {xs : List α} (hb : ∀ (q : Nat) y, q < xs.length → xs[q]? = some y → p y = false) : firstF p xs = -1 := by
  have : xs.findIdx? p = none := List.findIdx?_eq_none_iff.2 fun x hx => by
    obtain ⟨q, hq, rfl⟩ := List.mem_iff_getElem.1 hx
    exact hb q _ hq (List.getElem?_eq_getElem hq)
  unfold firstF; rw [this]
theorem firstF_any {α : Type} (p : α → Bool) (xs : List α) : decide (0 ≤ firstF p xs) = xs.any p := by
  unfold firstF
  cases h : xs.findIdx? p with
  | none =>
    have := List.findIdx?_eq_none_iff.1 h
    rw [List.any_eq_false.2 fun x hx => by rw [this x hx]; decide]
    rfl
  | some i =>
    obtain ⟨hi, hp, _⟩ := List.findIdx?_eq_some_iff_getElem.1 h
    rw [List.any_eq_true.2 ⟨_, List.getElem_mem hi, hp⟩]
    exact decide_eq_true (by simp only; omega)
def AsksF {α : Type} (k : FuncId) (cb : Array Value) (R : ElemR α) (w : World) (ts : List α) (p : α → Bool) : Prop := ∀ (x : α) (u : Value) (W : World), x ∈ ts → R (Lt w.heap.size) w x [u] → Below w.heap.size w W → Calls Tryz.prog k (#[u] ++ cb) W fun e w' => e = .returned (.bool (p x)) ∧ Below W.heap.size W w'
def RByte : ElemR UInt8 := fun _ _ c cs => cs = [.int .u8 (c.toNat : Int)]
theorem RByte.kept : ElemR.Kept RByte := fun _ _ _ _ _ _ _ _ h => h
set_option maxHeartbeats 1000000 in
theorem idxFS (k : FuncId) (cb : Array Value) (eg : ∀ args w, (callFunc k args).run Tryz.prog w = .ok (.enter k args) w) (tv : Value) (ts : List (ByteArray)) (p : ByteArray → Bool) (w : World) (ht : Sl 1 RStr (Lt w.heap.size) w tv ts) (hf : AsksF k cb RStr w ts p) :
    Calls Tryz.prog 73 #[tv, .func (.func k) #[] cb] w fun e w' => e = .returned (.int .i64 (firstF p ts)) ∧ Below w.heap.size w w' := by
  obtain ⟨A, c, rfl, h1, h2, ht⟩ := ht.open_
  have HF := Lib.hid hf
  have HT := Lib.hid ht
  clear hf ht
  go_enter Tryz.func73, Tryz.ntmps73
  go_wp2_with fail
  go_loopw [8] (fun i wr => ∃ j : Nat, j ≤ ts.length ∧ i = .int .i64 j ∧ Hid (∀ (q : Nat) t, q < j → ts[q]? = some t → p t = false) ∧ Hid (Below w.heap.size w wr)) (fun i _ => ts.length - (intOf i).toNat)
  case atStart => exact ⟨0, Nat.zero_le _, rfl, Lib.hid (fun q _ h => absurd h (by omega)), Lib.hid (Below.refl _ _)⟩
  case round =>
    obtain ⟨j, hj, rfl, HP, HB⟩ := hrel
    by_cases hlt : j < ts.length
    · obtain ⟨b, o, t, u, rfl, hD, hx, hr, hc⟩ := HT.out.at1 hlt
      have c0 := (HB.out.cell (p := ⟨b, o + j, none⟩) hD).trans hc
      have hcall := HF.out t u wr (List.mem_of_getElem? hx) hr HB.out
      have HX := Lib.hid hx
      clear hx hr hc
      generalize hq : p t = q' at *
      have HQ := Lib.hid hq
      have HC := Lib.hid hcall
      clear hcall hq
      cases q'
      · go_wp2_with (go_at_fn k; (with_reducible refine HC.out.mono ?_); rintro e w' ⟨rfl, hb'⟩; have HB' := Lib.hid (bthen HB.out hb'); clear hb')
        go_roundw
        case rel =>
          refine ⟨j + 1, by omega, by go_num, Lib.hid (fun q y hq hy => ?_), HB'⟩
          by_cases e : q = j
          · subst e; rw [HX.out] at hy; injection hy with hy; subst hy; exact HQ.out
          · exact HP.out q y (by omega) hy
        case measure => simp [intOf]; omega
      · go_wp2_with (go_at_fn k; (with_reducible refine HC.out.mono ?_); rintro e w' ⟨rfl, hb'⟩; have HB' := Lib.hid (bthen HB.out hb'); clear hb')
        go_ret
        exact ⟨ret_int (firstF_hit HX.out HQ.out HP.out).symm, HB'.out⟩
    · go_wp2_with fail
      go_ret
      exact ⟨ret_int (firstF_miss (fun q y hq hy => HP.out q y (by omega) hy)).symm, HB.out⟩
theorem contFS (k : FuncId) (cb : Array Value) (eg : ∀ args w, (callFunc k args).run Tryz.prog w = .ok (.enter k args) w) (tv : Value) (ts : List (ByteArray)) (p : ByteArray → Bool) (w : World) (ht : Sl 1 RStr (Lt w.heap.size) w tv ts) (hf : AsksF k cb RStr w ts p) :
    Calls Tryz.prog 28 #[tv, .func (.func k) #[] cb] w fun e w' => e = .returned (.bool (ts.any p)) ∧ Below w.heap.size w w' := by
  have HC := Lib.hid (idxFS k cb eg tv ts p w ht hf)
  have HZ := Lib.hid (firstF_any p ts)
  generalize firstF p ts = z at *
  obtain ⟨A, c, rfl, h1, h2, _⟩ := ht.open_
  clear hf ht
  go_enter Tryz.func28, Tryz.ntmps28
  go_wp2_with fail
  (with_reducible refine HC.out.mono ?_)
  rintro e w' ⟨rfl, hb'⟩
  go_wp2_with fail
  go_ret
  exact ⟨by rw [← HZ.out]; rfl, hb'⟩
set_option maxHeartbeats 1000000 in
theorem idxFI (k : FuncId) (cb : Array Value) (eg : ∀ args w, (callFunc k args).run Tryz.prog w = .ok (.enter k args) w) (tv : Value) (ts : List (Int)) (p : Int → Bool) (w : World) (ht : Sl 1 RInt (Lt w.heap.size) w tv ts) (hf : AsksF k cb RInt w ts p) :
    Calls Tryz.prog 114 #[tv, .func (.func k) #[] cb] w fun e w' => e = .returned (.int .i64 (firstF p ts)) ∧ Below w.heap.size w w' := by
  obtain ⟨A, c, rfl, h1, h2, ht⟩ := ht.open_
  have HF := Lib.hid hf
  have HT := Lib.hid ht
  clear hf ht
  go_enter Tryz.func114, Tryz.ntmps114
  go_wp2_with fail
  go_loopw [8] (fun i wr => ∃ j : Nat, j ≤ ts.length ∧ i = .int .i64 j ∧ Hid (∀ (q : Nat) t, q < j → ts[q]? = some t → p t = false) ∧ Hid (Below w.heap.size w wr)) (fun i _ => ts.length - (intOf i).toNat)
  case atStart => exact ⟨0, Nat.zero_le _, rfl, Lib.hid (fun q _ h => absurd h (by omega)), Lib.hid (Below.refl _ _)⟩
  case round =>
    obtain ⟨j, hj, rfl, HP, HB⟩ := hrel
    by_cases hlt : j < ts.length
    · obtain ⟨b, o, t, u, rfl, hD, hx, hr, hc⟩ := HT.out.at1 hlt
      have c0 := (HB.out.cell (p := ⟨b, o + j, none⟩) hD).trans hc
      have hcall := HF.out t u wr (List.mem_of_getElem? hx) hr HB.out
      have HX := Lib.hid hx
      clear hx hr hc
      generalize hq : p t = q' at *
      have HQ := Lib.hid hq
      have HC := Lib.hid hcall
      clear hcall hq
      cases q'
      · go_wp2_with (go_at_fn k; (with_reducible refine HC.out.mono ?_); rintro e w' ⟨rfl, hb'⟩; have HB' := Lib.hid (bthen HB.out hb'); clear hb')
        go_roundw
        case rel =>
          refine ⟨j + 1, by omega, by go_num, Lib.hid (fun q y hq hy => ?_), HB'⟩
          by_cases e : q = j
          · subst e; rw [HX.out] at hy; injection hy with hy; subst hy; exact HQ.out
          · exact HP.out q y (by omega) hy
        case measure => simp [intOf]; omega
      · go_wp2_with (go_at_fn k; (with_reducible refine HC.out.mono ?_); rintro e w' ⟨rfl, hb'⟩; have HB' := Lib.hid (bthen HB.out hb'); clear hb')
        go_ret
        exact ⟨ret_int (firstF_hit HX.out HQ.out HP.out).symm, HB'.out⟩
    · go_wp2_with fail
      go_ret
      exact ⟨ret_int (firstF_miss (fun q y hq hy => HP.out q y (by omega) hy)).symm, HB.out⟩
theorem contFI (k : FuncId) (cb : Array Value) (eg : ∀ args w, (callFunc k args).run Tryz.prog w = .ok (.enter k args) w) (tv : Value) (ts : List (Int)) (p : Int → Bool) (w : World) (ht : Sl 1 RInt (Lt w.heap.size) w tv ts) (hf : AsksF k cb RInt w ts p) :
    Calls Tryz.prog 62 #[tv, .func (.func k) #[] cb] w fun e w' => e = .returned (.bool (ts.any p)) ∧ Below w.heap.size w w' := by
  have HC := Lib.hid (idxFI k cb eg tv ts p w ht hf)
  have HZ := Lib.hid (firstF_any p ts)
  generalize firstF p ts = z at *
  obtain ⟨A, c, rfl, h1, h2, _⟩ := ht.open_
  clear hf ht
  go_enter Tryz.func62, Tryz.ntmps62
  go_wp2_with fail
  (with_reducible refine HC.out.mono ?_)
  rintro e w' ⟨rfl, hb'⟩
  go_wp2_with fail
  go_ret
  exact ⟨by rw [← HZ.out]; rfl, hb'⟩
end Go.Proofs.YtoalecalahkblaaGreatDoor

set_option linter.all false
namespace Go.Proofs.YtoalecalahkblaaGreatDoor
open Go.RowKit
structure Mp where
  cas : Int
  act : Int
  res : Int
  life : Int
  time : Int
  data : List Int
  kinds : List Int
  sep : UInt8
def Mp.zero : Mp := ⟨0, 0, 0, 0, 0, [], [], 0⟩
def colsB (m : Mp) : List Int := ([m.cas, m.act, m.time] ++ m.data) ++ (if m.res = -1 then [] else [m.res]) ++ (if m.life = -1 then [] else [m.life])
def distB : List Int → Bool
  | [] => true
  | x :: r => !r.contains x && distB r
def kindB (k : Int) : Bool := decide (k = 1) || decide (k = 2) || decide (k = 3)
def mapB (m : Mp) : Bool := isSep m.sep && decide (m.data.length ≤ 8) && decide (m.kinds.length = m.data.length) && (colsB m).all (fun k => decide (0 ≤ k) && decide (k < 40)) && decide (colsB m).Nodup && m.kinds.all kindB
def lowB (c : UInt8) : UInt8 := if 65 ≤ c ∧ c ≤ 90 then c + 32 else c
def smallB (s : Bt) : Bt := s.map lowB
def findB (ws cells : List Bt) : Int := match cells.findIdx? (fun s => decide (smallB s ∈ ws)) with
  | some i => (i : Int)
  | none => -1
def pickB (taken : List Int) : Nat → List Bt → List Int → List Bt → List Int
  | _, _, data, [] => data
  | i, seen, data, s :: r =>
    if data.length = 8 ∨ (i : Int) ∈ taken ∨ isNameB ⟨s.toArray⟩ = false ∨ s ∈ seen then pickB taken (i + 1) seen data r
    else pickB taken (i + 1) (seen ++ [s]) (data ++ [(i : Int)]) r
def fieldsB (m : Mp) : List Int := [m.cas, m.act, m.res, m.life, m.time].filter fun k => decide (0 ≤ k)
structure Wds where
  cas : List Bt
  act : List Bt
  res : List Bt
  life : List Bt
  time : List Bt
def guessE (W : Wds) (cells : List Bt) : Mp × Int :=
  if 40 < cells.length then (Mp.zero, 5)
  else
    let m : Mp := ⟨findB W.cas cells, findB W.act cells, findB W.res cells, findB W.life cells, findB W.time cells, [], [], 44⟩
    if m.cas < 0 ∨ m.act < 0 ∨ m.time < 0 then (Mp.zero, 10)
    else
      let d := pickB (fieldsB m) 0 [] [] cells
      ({ m with data := d, kinds := List.replicate d.length 3 }, 0)
structure Apart (W : Wds) : Prop where
  ca : ∀ x ∈ W.cas, x ∉ W.act
  cr : ∀ x ∈ W.cas, x ∉ W.res
  cl : ∀ x ∈ W.cas, x ∉ W.life
  ct : ∀ x ∈ W.cas, x ∉ W.time
  ar : ∀ x ∈ W.act, x ∉ W.res
  al : ∀ x ∈ W.act, x ∉ W.life
  at_ : ∀ x ∈ W.act, x ∉ W.time
  tr : ∀ x ∈ W.time, x ∉ W.res
  tl : ∀ x ∈ W.time, x ∉ W.life
  rl : ∀ x ∈ W.res, x ∉ W.life
end Go.Proofs.YtoalecalahkblaaGreatDoor

set_option linter.all false
namespace Go.Proofs.YtoalecalahkblaaGreatDoor
open Go.RowKit
def mpV (m : Mp) (dv kv : Value) : Value := .agg #[.int .i64 m.cas, .int .i64 m.act, .int .i64 m.res, .int .i64 m.life, .int .i64 m.time, dv, kv, .int .u8 (m.sep.toNat : Int)]
structure FitM (m : Mp) : Prop where
  cas : Fit m.cas
  act : Fit m.act
  res : Fit m.res
  life : Fit m.life
  time : Fit m.time
def IsMp (D : Nat → Prop) (w : World) (u : Value) (m : Mp) : Prop := ∃ dv kv, u = mpV m dv kv ∧ FitM m ∧ SlI D w dv m.data ∧ SlI D w kv m.kinds
theorem IsMp.now {w w' : World} {u : Value} {m : Mp} (h : IsMp (Lt w.heap.size) w u m) (hb : Below w.heap.size w w') : IsMp (Lt w'.heap.size) w' u m := by
  obtain ⟨dv, kv, rfl, hf, h1, h2⟩ := h
  exact ⟨dv, kv, rfl, hf, h1.now hb, h2.now hb⟩
theorem Blk.c8m {w : World} {g : Nat} {t : TypeId} {a b c d e f x y : Value} (h : Blk w g t #[a, b, c, d, e, f, x, y]) : w.cell? ⟨g, 0, none⟩ = some a ∧ w.cell? ⟨g, 1, none⟩ = some b ∧ w.cell? ⟨g, 2, none⟩ = some c ∧ w.cell? ⟨g, 3, none⟩ = some d ∧ w.cell? ⟨g, 4, none⟩ = some e ∧ w.cell? ⟨g, 5, none⟩ = some f ∧ w.cell? ⟨g, 6, none⟩ = some x ∧ w.cell? ⟨g, 7, none⟩ = some y :=
  ⟨h.cell 0, h.cell 1, h.cell 2, h.cell 3, h.cell 4, h.cell 5, h.cell 6, h.cell 7⟩
def headC (m : Mp) (k : Nat) : List Int := ([m.cas, m.act, m.time] ++ m.data) ++ (if 1 ≤ k ∧ m.res ≠ -1 then [m.res] else []) ++ (if 2 ≤ k ∧ m.life ≠ -1 then [m.life] else [])
theorem headC_two (m : Mp) : headC m 2 = colsB m := by
  unfold headC colsB
  congr 1
  · congr 1
    by_cases h : m.res = -1
    · rw [if_neg (by simp [h]), if_pos h]
    · rw [if_pos ⟨by omega, h⟩, if_neg h]
  · by_cases h : m.life = -1
    · rw [if_neg (by simp [h]), if_pos h]
    · rw [if_pos ⟨by omega, h⟩, if_neg h]
theorem headC_zero (m : Mp) : headC m 0 = [m.cas, m.act, m.time] ++ m.data := by
  unfold headC; rw [if_neg (by omega), if_neg (by omega)]; simp
theorem headC_res (m : Mp) : headC m 1 = headC m 0 ++ (if m.res = -1 then [] else [m.res]) := by
  rw [headC_zero]
  unfold headC
  rw [if_neg (by omega : ¬ (2 ≤ 1 ∧ m.life ≠ -1)), List.append_nil]
  congr 1
  by_cases h : m.res = -1
  · rw [if_neg (by simp [h]), if_pos h]
  · rw [if_pos ⟨by omega, h⟩, if_neg h]
theorem headC_life (m : Mp) : headC m 2 = headC m 1 ++ (if m.life = -1 then [] else [m.life]) := by
  unfold headC
  rw [if_neg (by omega : ¬ (2 ≤ 1 ∧ m.life ≠ -1)), List.append_nil]
  congr 1
  · congr 1
    by_cases h : m.res = -1
    · rw [if_neg (by simp [h]), if_neg (by simp [h])]
    · rw [if_pos ⟨by omega, h⟩, if_pos ⟨by omega, h⟩]
  · by_cases h : m.life = -1
    · rw [if_neg (by simp [h]), if_pos h]
    · rw [if_pos ⟨by omega, h⟩, if_neg h]
theorem nodup_of : ∀ zs : List Int, (∀ (i : Nat) x, zs[i]? = some x → x ∉ zs.take i) → zs.Nodup := by
  intro zs
  have key : ∀ n, n ≤ zs.length → (∀ (i : Nat) x, zs[i]? = some x → x ∉ zs.take i) → (zs.take n).Nodup := by
    intro n
    induction n with
    | zero => intro _ _; rw [List.take_zero]; exact List.nodup_nil
    | succ n ih =>
      intro hn h
      rw [List.take_add_one, List.getElem?_eq_getElem (by omega), List.nodup_append]
      refine ⟨ih (by omega) h, by simp, ?_⟩
      intro a ha b hb e
      have hb : b = zs[n] := by simpa using hb
      subst hb
      rw [e] at ha
      exact h n _ (List.getElem?_eq_getElem (by omega)) ha
  intro h
  have := key zs.length (Nat.le_refl _) h
  rwa [List.take_of_length_le (Nat.le_refl _)] at this
theorem not_nodup {zs : List Int} {i : Nat} {x : Int} (hx : zs[i]? = some x) (h : x ∈ zs.take i) : ¬ zs.Nodup := by
  intro hn
  obtain ⟨hi, rfl⟩ := List.getElem?_eq_some_iff.1 hx
  obtain ⟨j, hj, e⟩ := List.mem_iff_getElem.1 h
  rw [List.getElem_take] at e
  rw [List.length_take] at hj
  exact List.pairwise_iff_getElem.1 hn j i (by omega) hi (by omega) e
theorem mapB_eq {m : Mp} (h1 : isSep m.sep = true) (h2 : m.data.length ≤ 8) (h3 : m.kinds.length = m.data.length) : mapB m = ((colsB m).all (fun k => decide (0 ≤ k) && decide (k < 40)) && decide (colsB m).Nodup && m.kinds.all kindB) := by
  unfold mapB
  rw [h1, decide_eq_true h2, decide_eq_true h3]; rfl
theorem mapB_bad {m : Mp} (h : isSep m.sep = false ∨ 8 < m.data.length ∨ m.kinds.length ≠ m.data.length) : mapB m = false := by
  unfold mapB
  rcases h with h | h | h
  · rw [h]; rfl
  · rw [decide_eq_false (by omega : ¬ m.data.length ≤ 8)]; simp
  · rw [decide_eq_false h]; simp
theorem kind_any (k : Int) (w : World) : Calls Tryz.prog 63 #[.int .i64 k] w fun e w' => e = .returned (.bool (!kindB k)) ∧ w = w' := by
  have HK : Hid (kindB k = ((k == 1) || (k == 2) || (k == 3))) := by
    show _ = _
    unfold kindB
    rw [show (k == 1) = decide (k = 1) from rfl, show (k == 2) = decide (k = 2) from rfl, show (k == 3) = decide (k = 3) from rfl]
  generalize kindB k = q at *
  have e1 : (k != 1) = !(k == 1) := rfl
  have e2 : (k != 2) = !(k == 2) := rfl
  have e3 : (k != 3) = !(k == 3) := rfl
  generalize (k == 1) = q1 at *
  generalize (k == 2) = q2 at *
  generalize (k == 3) = q3 at *
  cases q1 <;> cases q2 <;> cases q3
  all_goals
    simp only [Bool.not_true, Bool.not_false] at e1 e2 e3
    go_enter Tryz.func63, Tryz.ntmps63
    go_wp2_with fail
    go_ret
    exact ⟨ret_bool (by rw [HK.out]; rfl), rfl⟩
theorem enters_kind : ∀ args w, (callFunc 63 args).run Tryz.prog w = .ok (.enter 63 args) w := enters_of Tryz.func63 (by kernel_rfl) rfl
theorem kinds_any (v : Value) (zs : List Int) (w : World) (h : SlI (Lt w.heap.size) w v zs) :
    Calls Tryz.prog 62 #[v, .func (.func 63) #[] #[]] w fun e w' => e = .returned (.bool (!zs.all kindB)) ∧ Below w.heap.size w w' := by
  have hf : AsksF 63 #[] RInt w zs (fun k => !kindB k) := by
    intro x u W _ hr _
    obtain ⟨h1, _⟩ := hr
    injection h1 with h1
    subst h1
    exact (kind_any x W).mono fun e w' ⟨h1, h2⟩ => ⟨h1, h2 ▸ Below.refl _ _⟩
  have hc := contFI 63 #[] enters_kind v zs _ w h hf
  have e : (zs.any fun k => !kindB k) = !zs.all kindB := by
    clear hc hf h
    induction zs with
    | nil => rfl
    | cons a r ih => simp [List.any_cons, List.all_cons, ih]
  rw [e] at hc
  exact hc
abbrev mpCells (m : Mp) (dv kv : Value) : Array Value := #[.int .i64 m.cas, .int .i64 m.act, .int .i64 m.res, .int .i64 m.life, .int .i64 m.time, dv, kv, .int .u8 (m.sep.toNat : Int)]
theorem appInts : AppInfo Tryz.prog 31 3 1 := AppInfo.mk' (z := .int .i64 0) (bytes := 8) Tryz.underlying31 (by kernel_rfl) (by decide) rfl (by decide)
def OwnZ (w : World) (base : Nat) (v : Value) (zs : List Int) : Prop := w.ownsRow base 3 1 v zs.length (zs.map (Value.int .i64))
set_option maxHeartbeats 8000000 in
set_option maxRecDepth 100000 in
theorem valid_any (u : Value) (m : Mp) (w : World) (h : IsMp (Lt w.heap.size) w u m) (hb : m.data.length ≤ 1000000) :
    Calls Tryz.prog 18 #[u] w fun e w' => e = .returned (.bool (mapB m)) ∧ Below w.heap.size w w' := by
  obtain ⟨dv, kv, rfl, hfm, hd, hk⟩ := h
  obtain ⟨Ad, cd, rfl, _, _, hd⟩ := hd.open_
  obtain ⟨Ak, ck, rfl, _, _, hk⟩ := hk.open_
  have HFM := Lib.hid hfm
  have HD := Lib.hid hd
  have HK := Lib.hid hk
  have HSEP := Lib.hid (separates_any m.sep)
  obtain ⟨q, hq⟩ : ∃ q, isSep m.sep = q := ⟨_, rfl⟩
  rw [hq] at HSEP
  have HQ := Lib.hid hq
  have HB1 := Lib.hid (bone w (.cells (mpCells m (.slice Ad m.data.length cd) (.slice Ak m.kinds.length ck)) 33))
  have HM1 := Lib.hid (Blk.new w 33 (mpCells m (.slice Ad m.data.length cd) (.slice Ak m.kinds.length ck)))
  obtain ⟨z, hz⟩ : ∃ z, (m.sep.toNat : Int) = z := ⟨_, rfl⟩
  unfold mpV
  unfold mpCells at HB1 HM1
  rw [hz] at HSEP HB1 HM1 ⊢
  clear hfm hd hk hq hz
  go_enter Tryz.func18, Tryz.ntmps18
  go_upto_region 1 with fail
  obtain ⟨w1, hw1⟩ : ∃ w1, w.alloc (.cells #[.int .i64 m.cas, .int .i64 m.act, .int .i64 m.res, .int .i64 m.life, .int .i64 m.time, .slice Ad m.data.length cd, .slice Ak m.kinds.length ck, .int .u8 z] 33) = w1 := ⟨_, rfl⟩
  rw [hw1] at HB1 HM1 ⊢
  clear hw1
  obtain ⟨c0, c1, c2, c3, c4, c5, c6, c7⟩ := HM1.out.c8m
  obtain ⟨q1, hq1⟩ : ∃ q1, decide ((8 : Int) < (m.data.length : Int)) = q1 := ⟨_, rfl⟩
  obtain ⟨q2, hq2⟩ : ∃ q2, ((m.kinds.length : Int) != (m.data.length : Int)) = q2 := ⟨_, rfl⟩
  have HQ1 := Lib.hid hq1
  have HQ2 := Lib.hid hq2
  go_cut [26] from 8 to 26 (fun x W => x = .bool (!q || (q1 || q2)) ∧ w1 = W)
  case first =>
    cases q <;> cases q1 <;> cases q2
    all_goals
      go_wp2_with (go_at_call 39; (with_reducible refine (HSEP.out _).mono ?_); rintro _ w' ⟨rfl, rfl⟩)
      go_meet
      exact ⟨rfl, rfl⟩
  obtain ⟨rfl, rfl⟩ := hcut
  have HBAD : Hid ((!q || (q1 || q2)) = true → mapB m = false) := fun h => by
    refine mapB_bad ?_
    cases q with
    | false => exact .inl HQ.out
    | true =>
      cases q1 with
      | true => exact .inr (.inl (by have := of_decide_eq_true HQ1.out; omega))
      | false =>
        cases q2 with
        | true => exact .inr (.inr (fun e => by have := HQ2.out; rw [e] at this; simp at this))
        | false => cases h
  have HGOOD : Hid ((!q || (q1 || q2)) = false → m.data.length ≤ 8 ∧ mapB m = ((colsB m).all (fun k => decide (0 ≤ k) && decide (k < 40)) && decide (colsB m).Nodup && m.kinds.all kindB)) := fun h => by
    cases q with
    | false => cases h
    | true =>
      cases q1 with
      | true => cases h
      | false =>
        cases q2 with
        | true => cases h
        | false =>
          have h1 : m.data.length ≤ 8 := by have := of_decide_eq_false HQ1.out; omega
          have h2 : m.kinds.length = m.data.length := by have := HQ2.out; simp at this; omega
          exact ⟨h1, mapB_eq HQ.out h1 h2⟩
  generalize (!q || (q1 || q2)) = qq at *
  clear hq1 hq2 HQ HQ1 HQ2 HSEP
  cases qq with
  | true =>
    have HE := Lib.hid (HBAD.out rfl)
    go_wp2_with fail
    go_ret
    exact ⟨ret_bool HE.out.symm, HB1.out⟩
  | false =>
    obtain ⟨hd8, hE⟩ := HGOOD.out rfl
    have HE := Lib.hid hE
    have HD1 : Hid (SlI (Lt w1.heap.size) w1 (.slice Ad m.data.length cd) m.data) := SlI.below HD.out HB1.out HB1.out.size
    have HK1 : Hid (SlI (Lt w1.heap.size) w1 (.slice Ak m.kinds.length ck) m.kinds) := SlI.below HK.out HB1.out HB1.out.size
    clear HBAD HGOOD hE HD HK
    have HB2 := Lib.hid (bone w1 (.cells #[.int .i64 m.cas, .int .i64 m.act, .int .i64 m.time] 3))
    have HO2 : Hid (World.ownsRow (w1.alloc (.cells #[.int .i64 m.cas, .int .i64 m.act, .int .i64 m.time] 3)) w1.heap.size 3 1 (.slice (some ⟨w1.heap.size, 0, none⟩) 3 3) 3 [.int .i64 m.cas, .int .i64 m.act, .int .i64 m.time]) := World.ownsRow_lit (base := w1.heap.size) (e := 3) (size := 1) w1 #[.int .i64 m.cas, .int .i64 m.act, .int .i64 m.time] 3 (Nat.le_refl _) (by unfold maxLen; omega) rfl
    obtain ⟨d0, d1, d2, d3, d4, d5, d6, d7⟩ := (HM1.out.now HB2.out).c8m
    have HM2 := Lib.hid (HM1.out.now HB2.out)
    have HDA := Lib.hid (SlI.below HD1.out HB2.out HB2.out.size)
    go_upto_region 4 with (at_builtin; refine wpList_appendAll (R := RInt) appInts rfl (.tmp 33) (.tmp 35) rfl _ _ 3 _ rfl HO2.out _ m.data (Value.int .i64) rfl HDA.out (fun y c h => by obtain ⟨h, _⟩ := h; injection h) (fun _ => rfl) (by omega) HB2.out.size ?_; intro v' w3 hown hgr hat)
    have HO3 : Hid (OwnZ w3 w1.heap.size v' (headC m 0)) := by
      show World.ownsRow _ _ _ _ _ _ _
      rw [headC_zero]
      have e : ([m.cas, m.act, m.time] ++ m.data).length = 3 + m.data.length := by rw [List.length_append]; rfl
      rw [e, List.map_append]
      exact hown
    have HB3 : Hid (Below w1.heap.size w1 w3) := HB2.out.grown hgr HB2.out.size (fun g hg => (HO2.out.lt g hg).1)
    clear hown hgr hat c0 c1 c2 c3 c4 c5 c6 c7 d0 d1 d2 d3 d4 d5 d6 d7 HDA HM2 HO2 HB2
    have HM3 := Lib.hid (HM1.out.now HB3.out)
    have HB4 := Lib.hid (HB3.out.trans ((bone w3 (.cells #[.int .i64 m.res, .int .i64 m.life] 3)).mono HB3.out.size))
    have HL4 := Lib.hid (Blk.new w3 3 #[.int .i64 m.res, .int .i64 m.life])
    have HO4 : Hid (OwnZ (w3.alloc (.cells #[.int .i64 m.res, .int .i64 m.life] 3)) w1.heap.size v' (headC m 0)) := own_now HO3.out (bone w3 _)
    have HN4 : Hid (v'.ownBlock ≠ some w3.heap.size) := fun e => by have := (World.ownsRow.lt HO3.out _ e).2; omega
    obtain ⟨c0, c1, c2, c3, c4, c5, c6, c7⟩ := HM3.out.c8m
    go_upto_region 5 with fail
    obtain ⟨w4, hw4⟩ : ∃ w4, w3.alloc (.cells #[.int .i64 m.res, .int .i64 m.life] 3) = w4 := ⟨_, rfl⟩
    have HLL : Hid (w3.heap.size < w4.heap.size) := by show _ < _; rw [← hw4]; simp
    rw [hw4] at HB4 HL4 HO4 ⊢
    clear hw4 c0 c1 c2 c3 c4 c5 c6 c7 HM3
    obtain ⟨L, hL⟩ : ∃ L, w3.heap.size = L := ⟨_, rfl⟩
    rw [hL] at HL4 HN4 HLL ⊢
    clear hL
    go_loopw [3, 43] (fun cv iv wr => ∃ k : Nat, iv = .int .i64 (k : Int) ∧ k ≤ 2 ∧ Hid (OwnZ wr w1.heap.size cv (headC m k)) ∧ Hid (Below w1.heap.size w1 wr) ∧ Hid (Blk wr L 3 #[.int .i64 m.res, .int .i64 m.life]) ∧ Hid (cv.ownBlock ≠ some L) ∧ Hid (L < wr.heap.size)) (fun _ iv _ => 2 - (intOf iv).toNat)
    case atStart => exact ⟨0, rfl, by omega, HO4, HB4, HL4, HN4, HLL⟩
    case round =>
      obtain ⟨k, rfl, hk, HO, HB, HL, HN, HLS⟩ := hrel
      obtain ⟨l0, l1⟩ := HL.out.c2
      have HLEN : Hid ((headC m k).length < 10000000) := by
        show _ < _
        unfold headC
        rw [List.length_append, List.length_append, List.length_append]
        have h1 : (if 1 ≤ k ∧ m.res ≠ -1 then [m.res] else []).length ≤ 1 := by by_cases h : 1 ≤ k ∧ m.res ≠ -1 <;> simp [h]
        have h2 : (if 2 ≤ k ∧ m.life ≠ -1 then [m.life] else []).length ≤ 1 := by by_cases h : 2 ≤ k ∧ m.life ≠ -1 <;> simp [h]
        simp only [List.length_cons, List.length_nil]
        omega
      have HSTEP : Hid (∀ x rest v' w7, headC m (k + 1) = headC m k ++ rest → rest = [x] → World.ownsRow w7 w1.heap.size 3 1 v' ((headC m k).length + 1) ((headC m k).map (Value.int .i64) ++ [.int .i64 x]) → OwnZ w7 w1.heap.size v' (headC m (k + 1))) := by
        intro x rest v' w7 h1 h2 h3
        show World.ownsRow _ _ _ _ _ _ _
        rw [h1, h2, List.length_append, List.map_append]
        exact h3
      rcases (by omega : k = 0 ∨ k = 1 ∨ k = 2) with rfl | rfl | rfl
      ·
        by_cases hr : m.res = -1
        · have e1 : (m.res != -1) = false := by rw [hr]; rfl
          have hh : headC m 1 = headC m 0 := by rw [headC_res, if_pos hr, List.append_nil]
          have HH := Lib.hid hh
          clear hr hh
          go_wp2_with fail
          go_roundw
          case rel => exact ⟨1, by go_num, by omega, by rw [HH.out]; exact HO, HB, HL, HN, HLS⟩
          case measure => simp [intOf]
        · have e1 : (m.res != -1) = true := by simpa using hr
          have hh : headC m 1 = headC m 0 ++ [m.res] := by rw [headC_res, if_neg hr]
          have HH := Lib.hid hh
          clear hr hh
          go_wp2_with (at_builtin; refine wpList_push appInts rfl (.tmp 49) (.tmp 51) rfl _ [.int .i64 m.res] rfl (fun u hu => by simp at hu; subst hu; rfl) _ _ _ rfl HO.out rfl HLEN.out HB.out.size ?_; intro v' w7 hown hgr hat)
          go_roundw
          case rel =>
            refine ⟨1, by go_num, by omega, HSTEP.out _ _ _ _ HH.out rfl hown, HB.out.grown hgr HB.out.size (fun g hg => (World.ownsRow.lt HO.out g hg).1), HL.out.grown hgr (fun e => HN.out e.symm), ?_, Nat.lt_of_lt_of_le HLS.out hgr.size⟩
            rcases hat with e | e
            · show _ ≠ _; rw [e]; exact HN.out
            · show _ ≠ _; rw [e]; intro e2; injection e2 with e2; have := HLS.out; omega
          case measure => simp [intOf]
      ·
        by_cases hr : m.life = -1
        · have e1 : (m.life != -1) = false := by rw [hr]; rfl
          have hh : headC m 2 = headC m 1 := by rw [headC_life, if_pos hr, List.append_nil]
          have HH := Lib.hid hh
          clear hr hh
          go_wp2_with fail
          go_roundw
          case rel => exact ⟨2, by go_num, by omega, by rw [HH.out]; exact HO, HB, HL, HN, HLS⟩
          case measure => simp [intOf]
        · have e1 : (m.life != -1) = true := by simpa using hr
          have hh : headC m 2 = headC m 1 ++ [m.life] := by rw [headC_life, if_neg hr]
          have HH := Lib.hid hh
          clear hr hh
          go_wp2_with (at_builtin; refine wpList_push appInts rfl (.tmp 49) (.tmp 51) rfl _ [.int .i64 m.life] rfl (fun u hu => by simp at hu; subst hu; rfl) _ _ _ rfl HO.out rfl HLEN.out HB.out.size ?_; intro v' w7 hown hgr hat)
          go_roundw
          case rel =>
            refine ⟨2, by go_num, by omega, HSTEP.out _ _ _ _ HH.out rfl hown, HB.out.grown hgr HB.out.size (fun g hg => (World.ownsRow.lt HO.out g hg).1), HL.out.grown hgr (fun e => HN.out e.symm), ?_, Nat.lt_of_lt_of_le HLS.out hgr.size⟩
            rcases hat with e | e
            · show _ ≠ _; rw [e]; exact HN.out
            · show _ ≠ _; rw [e]; intro e2; injection e2 with e2; have := HLS.out; omega
          case measure => simp [intOf]
      · rw [headC_two] at HO
        have hcl : (colsB m).length < 10000000 := by rw [← headC_two]; exact HLEN.out
        have hcp : 0 < (colsB m).length := by unfold colsB; simp
        obtain ⟨g, cap, rfl, hcap, hOI⟩ := OwnI.of HO.out hcp
        rw [show ((2 : Nat) : Int) = 2 from rfl]
        have HOI := Lib.hid hOI
        have HOZ := HO
        have HBW := Lib.hid (HB1.out.trans (HB.out.mono HB1.out.size))
        obtain ⟨zs, hzs⟩ : ∃ zs, colsB m = zs := ⟨_, rfl⟩
        rw [hzs] at HOI HE hcl hcp hcap ⊢
        clear hzs hOI HO HSTEP HLEN l0 l1 HOZ HN HL HLS
        obtain ⟨w5, hw5⟩ : ∃ w5, wr = w5 := ⟨_, rfl⟩
        rw [hw5] at HOI HB HBW ⊢
        clear hw5
        go_wp2_with fail
        go_loopw [56] (fun iv wr => ∃ i : Nat, iv = .int .i64 (i : Int) ∧ i ≤ zs.length ∧ Hid (∀ (j : Nat) x, j < i → zs[j]? = some x → 0 ≤ x ∧ x < 40 ∧ x ∉ zs.take j) ∧ w5 = wr) (fun iv _ => zs.length - (intOf iv).toNat)
        case atStart => exact ⟨0, rfl, Nat.zero_le _, fun j x hj _ => absurd hj (by omega), rfl⟩
        case round =>
          obtain ⟨i, rfl, hi, HP, rfl⟩ := hrel
          by_cases hlt : i < zs.length
          · have hx : zs[i]? = some zs[i] := List.getElem?_eq_getElem hlt
            have c0 := HOI.out.cell hx
            obtain ⟨x, hxx⟩ : ∃ x, zs[i] = x := ⟨_, rfl⟩
            rw [hxx] at hx c0
            have HX := Lib.hid hx
            have HCT := Lib.hid (Tryz.slices_Contains_int g 0 i cap zs x w5 (by omega) (by omega) (fun j hj => by
              have h1 := HOI.out.cell (List.getElem?_eq_getElem hj)
              rw [Nat.zero_add, h1, List.getD_eq_getElem?_getD, List.getElem?_eq_getElem hj]; rfl))
            have HNO : Hid (¬ (0 ≤ x ∧ x < 40 ∧ x ∉ zs.take i) → mapB m = false) := fun h => by
              rw [HE.out]
              have : (zs.all (fun k => decide (0 ≤ k) && decide (k < 40)) && decide zs.Nodup) = false := by
                rw [Bool.and_eq_false_iff]
                by_cases h1 : 0 ≤ x ∧ x < 40
                · right
                  have h2 : x ∈ zs.take i := by
                    by_cases h3 : x ∈ zs.take i
                    · exact h3
                    · exact absurd ⟨h1.1, h1.2, h3⟩ h
                  exact decide_eq_false (not_nodup HX.out h2)
                · left
                  rw [List.all_eq_false]
                  refine ⟨x, List.mem_of_getElem? HX.out, ?_⟩
                  rw [Bool.and_eq_true, decide_eq_true_eq, decide_eq_true_eq]
                  exact h1
              rw [this]; rfl
            have hic : (i : Int) ≤ (cap : Int) := by omega
            have hi0 : (0 : Int) ≤ (i : Int) := by omega
            clear hx hxx
            by_cases hx0 : x < 0
            · have HF := Lib.hid (HNO.out (fun h => by omega))
              clear HNO HCT
              go_wp2_with fail
              go_ret
              exact ⟨ret_bool HF.out.symm, HBW.out⟩
            by_cases hx40 : (40 : Int) ≤ x
            · have HF := Lib.hid (HNO.out (fun h => by omega))
              clear HNO HCT
              go_wp2_with fail
              go_ret
              exact ⟨ret_bool HF.out.symm, HBW.out⟩
            obtain ⟨q, hq⟩ : ∃ q, (zs.take i).contains x = q := ⟨_, rfl⟩
            rw [hq] at HCT
            cases q with
            | true =>
              have HF := Lib.hid (HNO.out (fun h => h.2.2 (by simpa using hq)))
              clear HNO hq
              go_wp2_with fail
              (with_reducible refine HCT.out.mono ?_)
              rintro _ w6 ⟨rfl, rfl⟩
              go_wp2_with fail
              go_ret
              exact ⟨ret_bool HF.out.symm, HBW.out⟩
            | false =>
              have HOK : Hid (0 ≤ x ∧ x < 40 ∧ x ∉ zs.take i) := ⟨by omega, by omega, by simpa using hq⟩
              clear HNO hq
              go_wp2_with fail
              (with_reducible refine HCT.out.mono ?_)
              rintro _ w6 ⟨rfl, rfl⟩
              go_wp2_with fail
              go_roundw
              case rel => exact ⟨i + 1, by go_num, by omega, fun j y hj hy => by
                by_cases e : j = i
                · subst e; rw [HX.out] at hy; injection hy with hy; subst hy; exact HOK.out
                · exact HP.out j y (by omega) hy, trivial⟩
              case measure => simp [intOf]; omega
          · have HF : Hid (mapB m = m.kinds.all kindB) := by
              show _ = _
              have h1 : zs.all (fun k => decide (0 ≤ k) && decide (k < 40)) = true := by
                rw [List.all_eq_true]
                intro x hx
                obtain ⟨j, hj, rfl⟩ := List.mem_iff_getElem.1 hx
                have := HP.out j zs[j] (by omega) (List.getElem?_eq_getElem hj)
                rw [decide_eq_true this.1, decide_eq_true this.2.1]; rfl
              have h2 : zs.Nodup := nodup_of zs fun j x hx => (HP.out j x (by have := (List.getElem?_eq_some_iff.1 hx).1; omega) hx).2.2
              rw [HE.out, h1, decide_eq_true h2]; rfl
            have HKK := Lib.hid (kinds_any _ m.kinds w5 (SlI.below HK1.out HB.out HB.out.size))
            obtain ⟨q, hq⟩ : ∃ q, m.kinds.all kindB = q := ⟨_, rfl⟩
            rw [hq] at HF HKK
            obtain ⟨c0, c1, c2, c3, c4, c5, c6, c7⟩ := (HM1.out.now HB.out).c8m
            clear hq
            go_wp2_with fail
            (with_reducible refine HKK.out.mono ?_)
            rintro _ w6 ⟨rfl, hb6⟩
            have HB6 := Lib.hid (bthen HBW.out hb6)
            clear hb6
            go_wp2_with fail
            go_ret
            exact ⟨ret_bool (by rw [HF.out]; first | done | rw [Bool.not_not] | simp), HB6.out⟩
end Go.Proofs.YtoalecalahkblaaGreatDoor

set_option linter.all false
namespace Go.Proofs.YtoalecalahkblaaGreatDoor
open Go.RowKit
theorem neg_any (k : Int) (w : World) : Calls Tryz.prog 122 #[.int .i64 k] w fun e w' => e = .returned (.bool (decide (k < 0))) ∧ w = w' := by
  go_enter Tryz.func122, Tryz.ntmps122
  go_wp2_with fail
  go_ret
  exact ⟨rfl, rfl⟩
theorem enters_neg : ∀ args w, (callFunc 122 args).run Tryz.prog w = .ok (.enter 122 args) w := enters_of Tryz.func122 (by kernel_rfl) rfl
theorem fields_filter (m : Mp) : ([m.cas, m.act, m.res, m.life, m.time].filter fun x => !decide (x < 0)) = fieldsB m := by
  unfold fieldsB
  congr 1
  funext k
  by_cases h : k < 0
  · rw [decide_eq_true h, decide_eq_false (by omega)]; rfl
  · rw [decide_eq_false h, decide_eq_true (by omega)]; rfl
theorem fieldsB_len (m : Mp) : (fieldsB m).length ≤ 5 := by
  unfold fieldsB
  exact Nat.le_trans (List.length_filter_le _ _) (Nat.le_refl _)
theorem delete_any (m : Mp) (hf : FitM m) (w : World) :
    Calls Tryz.prog 121 #[.slice (some ⟨w.heap.size, 0, none⟩) 5 5, .func (.func 122) #[] #[]] (w.alloc (.cells #[.int .i64 m.cas, .int .i64 m.act, .int .i64 m.res, .int .i64 m.life, .int .i64 m.time] 3))
      fun e w' => e = .returned (.slice (some ⟨w.heap.size, 0, none⟩) (fieldsB m).length 5) ∧ SlI (Lt w'.heap.size) w' (.slice (some ⟨w.heap.size, 0, none⟩) (fieldsB m).length 5) (fieldsB m) ∧ Below w.heap.size w w' := by
  have hB := Blk.new w 3 #[.int .i64 m.cas, .int .i64 m.act, .int .i64 m.res, .int .i64 m.life, .int .i64 m.time]
  have hb := bone w (.cells #[.int .i64 m.cas, .int .i64 m.act, .int .i64 m.res, .int .i64 m.life, .int .i64 m.time] 3)
  have hsz : w.heap.size < (w.alloc (.cells #[.int .i64 m.cas, .int .i64 m.act, .int .i64 m.res, .int .i64 m.life, .int .i64 m.time] 3)).heap.size := by simp
  obtain ⟨w1, hw1⟩ : ∃ w1, w.alloc (.cells #[.int .i64 m.cas, .int .i64 m.act, .int .i64 m.res, .int .i64 m.life, .int .i64 m.time] 3) = w1 := ⟨_, rfl⟩
  rw [hw1] at hB hb hsz ⊢
  clear hw1
  obtain ⟨g, hg⟩ : ∃ g, w.heap.size = g := ⟨_, rfl⟩
  have hgb : Below g w w1 := by rw [← hg]; exact hb
  rw [hg] at hB hsz ⊢
  have hpred : Go.Proofs.PredAt Tryz.prog 122 #[] (Value.int .i64) (fun k => decide (k < 0)) w1 := fun W x _ => (neg_any x W).mono fun e w' ⟨h1, h2⟩ => ⟨h1, 0, h2.symm⟩
  have hover : Go.Proofs.PredOver Tryz.prog 122 #[] (Value.int .i64) (fun k => decide (k < 0)) g 0 5 w1 := fun n os dk x _ => (neg_any x _).mono fun e w' ⟨h1, h2⟩ => ⟨h1, 0, h2.symm⟩
  have hH : Go.Sort.Holds (Value.int .i64) w1 g 0 #[m.cas, m.act, m.res, m.life, m.time] := by
    intro j hj
    refine ⟨?_, hB.frozen _⟩
    have hc := hB.cell (0 + j)
    rw [hc]
    match j, hj with
    | 0, _ => rfl
    | 1, _ => rfl
    | 2, _ => rfl
    | 3, _ => rfl
    | 4, _ => rfl
  have h := Tryz.slices_DeleteFunc (Value.int .i64) (fun _ => rfl) (fun k => decide (k < 0)) 122 #[] enters_neg 0 Tryz.zeroValue3 g 0 5 #[m.cas, m.act, m.res, m.life, m.time] w1 hpred hover hH (by simp) (by simp)
  have hfl : (#[m.cas, m.act, m.res, m.life, m.time].toList.filter fun x => !decide (x < 0)) = fieldsB m := fields_filter m
  rw [hfl] at h
  have hlen := fieldsB_len m
  have hfit : ∀ x ∈ fieldsB m, Fit x := fun x hx => by
    have hx := (List.mem_filter.1 hx).1
    simp only [List.mem_cons, List.not_mem_nil, or_false] at hx
    rcases hx with rfl | rfl | rfl | rfl | rfl
    · exact hf.cas
    · exact hf.act
    · exact hf.res
    · exact hf.life
    · exact hf.time
  refine Calls.mono h fun e w' ⟨he, q, hw⟩ => ?_
  generalize fieldsB m = fs at *
  obtain ⟨d, hd⟩ : ∃ d, (fs ++ List.replicate (#[m.cas, m.act, m.res, m.life, m.time].size - fs.length) 0).toArray = d := ⟨_, rfl⟩
  have hds : d.size = 5 := by
    rw [← hd]
    simp
    omega
  have hdg : ∀ i x, fs[i]? = some x → d[i]! = x := fun i x hx => by
    have hi := (List.getElem?_eq_some_iff.1 hx).1
    rw [getElem!_pos d i (by omega)]
    have : d[i]'(by omega) = (fs ++ List.replicate (#[m.cas, m.act, m.res, m.life, m.time].size - fs.length) 0)[i]'(by simp; omega) := by
      subst hd; simp
    rw [this, List.getElem_append_left hi]
    exact (List.getElem?_eq_some_iff.1 hx).2
  rw [hd] at hw
  have hsw : w'.heap.size = w1.heap.size := by rw [hw]; simp
  refine ⟨he, ⟨some ⟨g, 0, none⟩, 5, rfl, hlen, by unfold maxLen; omega, fun i x hx => ⟨g, 0, [.int .i64 x], rfl, by show g < _; omega, rfl, ⟨rfl, hfit x (List.mem_of_getElem? hx)⟩, fun j u hu => ?_⟩⟩, ?_⟩
  · match j, hu with
    | 0, hu =>
      injection hu with hu
      subst hu
      have hi := (List.getElem?_eq_some_iff.1 hx).1
      have hc := Go.Sort.cell?_putRow (Value.int .i64) (Go.Sort.ahead w1 q) g 0 #[m.cas, m.act, m.res, m.life, m.time] d hH (by rw [hds]; rfl) i (by omega)
      rw [hw, show 0 + i * 1 + 0 = 0 + i by omega, hc, hdg i x hx]
    | j + 1, hu => simp at hu
  · refine hgb.trans ?_
    rw [hw]
    refine ⟨rfl, rfl, rfl, by simp, fun j hj => ?_⟩
    have : g ≠ j := by omega
    simp [Go.Sort.putRow, Go.Sort.mapBlock, Go.Sort.ahead, Array.getElem?_modify, this]
set_option maxHeartbeats 2000000 in
theorem fields_any (u : Value) (m : Mp) (w : World) (h : IsMp (Lt w.heap.size) w u m) :
    Calls Tryz.prog 75 #[u] w fun e w' => ∃ v, e = .returned v ∧ SlI (Lt w'.heap.size) w' v (fieldsB m) ∧ Below w.heap.size w w' := by
  obtain ⟨dv, kv, rfl, hfm, hd, hk⟩ := h
  have HD := Lib.hid (delete_any m hfm)
  obtain ⟨Ad, cd, rfl, _, _, hd⟩ := hd.open_
  obtain ⟨Ak, ck, rfl, _, _, hk⟩ := hk.open_
  obtain ⟨z, hz⟩ : ∃ z, (m.sep.toNat : Int) = z := ⟨_, rfl⟩
  unfold mpV
  rw [hz]
  clear hfm hd hk hz
  have HB1 := Lib.hid (bone w (.cells #[.int .i64 m.cas, .int .i64 m.act, .int .i64 m.res, .int .i64 m.life, .int .i64 m.time, .slice Ad m.data.length cd, .slice Ak m.kinds.length ck, .int .u8 z] 33))
  have HM1 := Lib.hid (Blk.new w 33 #[.int .i64 m.cas, .int .i64 m.act, .int .i64 m.res, .int .i64 m.life, .int .i64 m.time, .slice Ad m.data.length cd, .slice Ak m.kinds.length ck, .int .u8 z])
  go_enter Tryz.func75, Tryz.ntmps75
  go_upto_region 1 with fail
  obtain ⟨w1, hw1⟩ : ∃ w1, w.alloc (.cells #[.int .i64 m.cas, .int .i64 m.act, .int .i64 m.res, .int .i64 m.life, .int .i64 m.time, .slice Ad m.data.length cd, .slice Ak m.kinds.length ck, .int .u8 z] 33) = w1 := ⟨_, rfl⟩
  rw [hw1] at HB1 HM1 ⊢
  clear hw1
  obtain ⟨c0, c1, c2, c3, c4, c5, c6, c7⟩ := HM1.out.c8m
  have HDW := Lib.hid (HD.out w1)
  clear HD
  go_wp2_with fail
  (with_reducible refine HDW.out.mono ?_)
  rintro _ w2 ⟨rfl, hs, hb⟩
  have HS := Lib.hid hs
  have HB2 := Lib.hid (bthen HB1.out hb)
  clear hs hb
  go_wp2_with fail
  go_ret
  exact ⟨_, rfl, HS.out, HB2.out⟩
end Go.Proofs.YtoalecalahkblaaGreatDoor
