/- Texts of this seat, merged. -/
import Derived.BigQuiet
import Derived.Outline
import Derived.Laws.IdiomStrings
import Derived.Laws.BytesString
import Derived.Test.YtoalecalahkblaaGreatDoorIl01
import Derived.Test.YtoalecalahkblaaGreatDoorIl02
import Derived.Test.YtoalecalahkblaaGreatDoorIl03
import Derived.Test.YtoalecalahkblaaGreatDoorIl04
import Derived.Test.YtoalecalahkblaaGreatDoorIl06
set_option linter.all false
set_option linter.all false
namespace Go.Proofs.YtoalecalahkblaaGreatDoor
open Go.RowKit
set_option maxHeartbeats 4000000 in
set_option maxRecDepth 100000 in
theorem header_none (r : List Bt) (rv u : Value) (m : Mp) (w : World) (hr : SlP (Lt w.heap.size) w rv r) (h : IsMp (Lt w.heap.size) w u m) (hd0 : m.data = []) (hcol : ∀ k ∈ fieldsB m, k < (r.length : Int)) :
    Calls Tryz.prog 53 #[rv, u] w fun e w' => e = .returned (.tuple #[.agg #[.int .i64 0, .int .i64 0], .int .i64 0]) ∧ Below w.heap.size w w' := by
  obtain ⟨Ar, cr, rfl, _, _, hr⟩ := hr.open_
  have HF := Lib.hid (fun W hW => fields_any u m W hW)
  have HM := Lib.hid h
  have HCOL := Lib.hid hcol
  obtain ⟨dv, kv, rfl, hfm, hd, hk⟩ := h
  obtain ⟨Ad, cd, rfl, _, _, hd⟩ := hd.open_
  obtain ⟨Ak, ck, rfl, _, _, hk⟩ := hk.open_
  have hdl : m.data.length = 0 := by rw [hd0]; rfl
  rw [hdl] at HM HF ⊢
  obtain ⟨z, hz⟩ : ∃ z, (m.sep.toNat : Int) = z := ⟨_, rfl⟩
  unfold mpV at HM HF ⊢
  rw [hz] at HM HF ⊢
  clear hfm hd hk hz hdl hd0 hcol hr
  -- the boxes
  have hb1 := bone w (.cells #[.slice Ar r.length cr] 51)
  have hB1 := Blk.new w 51 #[.slice Ar r.length cr]
  have hs1 : (w.alloc (.cells #[.slice Ar r.length cr] 51)).heap.size = w.heap.size + 1 := by simp
  obtain ⟨w1, hw1⟩ : ∃ w1, w.alloc (.cells #[.slice Ar r.length cr] 51) = w1 := ⟨_, rfl⟩
  rw [hw1] at hb1 hB1 hs1
  have hb2 := bone w1 (.cells #[.int .i64 m.cas, .int .i64 m.act, .int .i64 m.res, .int .i64 m.life, .int .i64 m.time, .slice Ad 0 cd, .slice Ak m.kinds.length ck, .int .u8 z] 33)
  have hB2 := Blk.new w1 33 #[.int .i64 m.cas, .int .i64 m.act, .int .i64 m.res, .int .i64 m.life, .int .i64 m.time, .slice Ad 0 cd, .slice Ak m.kinds.length ck, .int .u8 z]
  have hs2 : (w1.alloc (.cells #[.int .i64 m.cas, .int .i64 m.act, .int .i64 m.res, .int .i64 m.life, .int .i64 m.time, .slice Ad 0 cd, .slice Ak m.kinds.length ck, .int .u8 z] 33)).heap.size = w.heap.size + 2 := by simp [hs1]
  rw [hs1] at hB2
  obtain ⟨w2, hw2⟩ : ∃ w2, w1.alloc (.cells #[.int .i64 m.cas, .int .i64 m.act, .int .i64 m.res, .int .i64 m.life, .int .i64 m.time, .slice Ad 0 cd, .slice Ak m.kinds.length ck, .int .u8 z] 33) = w2 := ⟨_, rfl⟩
  rw [hw2] at hb2 hB2 hs2
  have hb3 := bone w2 (.cells #[.int .i64 0, .int .i64 0] 40)
  have hB3 := Blk.new w2 40 #[.int .i64 0, .int .i64 0]
  rw [hs2] at hB3
  obtain ⟨w3, hw3⟩ : ∃ w3, w2.alloc (.cells #[.int .i64 0, .int .i64 0] 40) = w3 := ⟨_, rfl⟩
  have HB3 : Hid (Below w.heap.size w w3) := by rw [← hw3]; exact bthen (bthen hb1 hb2) hb3
  have HR3 : Hid (Blk w3 w.heap.size 51 #[.slice Ar r.length cr]) := by rw [← hw3]; exact (hB1.now hb2).now hb3
  have HM3 : Hid (Blk w3 (w.heap.size + 1) 33 #[.int .i64 m.cas, .int .i64 m.act, .int .i64 m.res, .int .i64 m.life, .int .i64 m.time, .slice Ad 0 cd, .slice Ak m.kinds.length ck, .int .u8 z]) := by rw [← hw3]; exact hB2.now hb3
  have HP3 : Hid (Blk w3 (w.heap.size + 2) 40 #[.int .i64 0, .int .i64 0]) := by rw [← hw3]; exact hB3
  have HW : Hid (((w.alloc (.cells #[.slice Ar r.length cr] 51)).alloc (.cells #[.int .i64 m.cas, .int .i64 m.act, .int .i64 m.res, .int .i64 m.life, .int .i64 m.time, .slice Ad 0 cd, .slice Ak m.kinds.length ck, .int .u8 z] 33)).alloc (.cells #[.int .i64 0, .int .i64 0] 40) = w3) := by show _ = _; rw [hw1, hw2, hw3]
  clear hb1 hB1 hs1 hw1 hb2 hB2 hs2 hw2 hb3 hB3 hw3
  go_enter Tryz.func53, Tryz.ntmps53
  go_upto_region 1 with fail
  rw [HW.out]
  clear HW
  have HFW := Lib.hid (HF.out w3 (HM.out.now HB3.out))
  obtain ⟨c0, c1, c2, c3, c4, c5, c6, c7⟩ := HM3.out.c8m
  go_wp2_with fail
  (with_reducible refine HFW.out.mono ?_)
  rintro _ w4 ⟨v, rfl, hs, hb⟩
  obtain ⟨Af, cf, rfl, _, _, hs⟩ := hs.open_
  have HS4 := Lib.hid hs
  have HB4 := Lib.hid (bthen HB3.out hb)
  have HR4 := Lib.hid (HR3.out.now hb)
  have HM4 := Lib.hid (HM3.out.now hb)
  have HP4 := Lib.hid (HP3.out.now hb)
  clear hs hb HFW HF c0 c1 c2 c3 c4 c5 c6 c7 HR3 HM3 HP3 HB3
  generalize fieldsB m = fs at *
  have r0 := HR4.out.c1
  go_wp2_with fail
  go_loopw [14] (fun iv wr => ∃ k : Nat, iv = .int .i64 (k : Int) ∧ k ≤ fs.length ∧ w4 = wr) (fun iv _ => fs.length - (intOf iv).toNat)
  case atStart => exact ⟨0, rfl, Nat.zero_le _, rfl⟩
  case round =>
    obtain ⟨k, rfl, hk, rfl⟩ := hrel
    by_cases hlt : k < fs.length
    · obtain ⟨b, o, x, rfl, hD, hx, _, d0⟩ := SlI.at_ HS4.out hlt
      have hxl := HCOL.out x (List.mem_of_getElem? hx)
      have hxl' : ¬ (r.length : Int) ≤ x := by omega
      clear hx hxl
      go_wp2_with fail
      go_roundw
      case rel => exact ⟨k + 1, by go_num, by omega, trivial⟩
      case measure => simp [intOf]; omega
    · obtain ⟨c0, c1, c2, c3, c4, c5, c6, c7⟩ := HM4.out.c8m
      obtain ⟨p0, p1⟩ := HP4.out.c2
      have f0 := HP4.out.frozen 0
      have f1 := HP4.out.frozen 1
      go_wp2_with fail
      go_loopw [29] (fun iv wr => iv = .int .i64 0 ∧ w4 = wr) (fun _ _ => 0)
      case atStart => exact ⟨rfl, rfl⟩
      case round =>
        obtain ⟨rfl, rfl⟩ := hrel
        go_wp2_with fail
        have hz := HP4.out.set_ 0 (.int .i64 0)
        have hz2 := hz.set_ 1 (.int .i64 0)
        have hbz := (HB4.out.setCell (p := ⟨w.heap.size + 2, 0, none⟩) (show w.heap.size ≤ w.heap.size + 2 by omega) (.int .i64 0)).setCell (p := ⟨w.heap.size + 2, 1, none⟩) (show w.heap.size ≤ w.heap.size + 2 by omega) (.int .i64 0)
        have hz3 : Blk ((w4.setCell ⟨w.heap.size + 2, 0, none⟩ (.int .i64 0)).setCell ⟨w.heap.size + 2, 1, none⟩ (.int .i64 0)) (w.heap.size + 2) 40 #[.int .i64 0, .int .i64 0] := hz2
        obtain ⟨r0, r1⟩ := hz3.c2
        generalize (w4.setCell ⟨w.heap.size + 2, 0, none⟩ (.int .i64 0)).setCell ⟨w.heap.size + 2, 1, none⟩ (.int .i64 0) = wz at *
        refine bodyPost_ret (v := .tuple #[.agg #[.int .i64 0, .int .i64 0], .int .i64 0]) (by simp [results, Tryz.results53, go_sem, r0, r1]) rfl ?_
        exact ⟨rfl, hbz⟩
end Go.Proofs.YtoalecalahkblaaGreatDoor

set_option linter.all false
namespace Go.Proofs.YtoalecalahkblaaGreatDoor
open Go.RowKit
def setZ (r : List Bt) (k : Int) (s : Bt) : List Bt := r.set k.toNat s
def lifeW : List Bt := [[115, 99, 104, 101, 100, 117, 108, 101], [115, 116, 97, 114, 116], [115, 117, 115, 112, 101, 110, 100], [114, 101, 115, 117, 109, 101], [99, 111, 109, 112, 108, 101, 116, 101], [97, 98, 111, 114, 116]]
def cellV (vt : Val → Bt) (v : Val) : Bt := if v.kind = 3 then v.s.data.toList else vt v
def datR (vt : Val → Bt) (names : List Bs) (m : Mp) : List Fld → List Bt → Option (List Bt)
  | [], r => some r
  | f :: fs, r =>
    let k := names.idxOf (nmOf f)
    if f.v.kind ≠ m.kinds.getD k 0 ∨ cellV vt f.v = [] then none
    else datR vt names m fs (setZ r (m.data.getD k 0) (cellV vt f.v))
def rowX (vt : Val → Bt) (names : List Bs) (m : Mp) (width : Nat) (e : Ev) : List Bt × Int :=
  if m.res < 0 ∧ e.res.data.toList ≠ [] then ([], 12)
  else if m.life < 0 ∧ e.life ≠ 5 then ([], 20)
  else
    let r0 := setZ (setZ (setZ (List.replicate width []) m.cas e.cas.data.toList) m.act e.act.data.toList) m.time (Lib.itoa e.time)
    let r1 := if 0 ≤ m.res then setZ r0 m.res e.res.data.toList else r0
    let r2 := if 0 ≤ m.life then setZ r1 m.life (lifeW.getD (e.life - 1).toNat []) else r1
    match datR vt names m e.data r2 with
    | none => ([], 11)
    | some r => (r, 0)
def headX (names : List Bs) (m : Mp) (width : Nat) : List Bt :=
  let r0 := setZ (setZ (setZ (List.replicate width []) m.cas [99, 97, 115, 101]) m.act [97, 99, 116, 105, 118, 105, 116, 121]) m.time [116, 105, 109, 101]
  let r1 := if 0 ≤ m.res then setZ r0 m.res [114, 101, 115, 111, 117, 114, 99, 101] else r0
  let r2 := if 0 ≤ m.life then setZ r1 m.life [108, 105, 102, 101] else r1
  (m.data.zip names).foldl (fun r p => setZ r p.1 p.2) r2
def rowsX (f : Ev → List Bt × Int) : List Ev → List (List Bt) → List (List Bt) × Int
  | [], acc => (acc, 0)
  | e :: l, acc => if (f e).2 ≠ 0 then ([], (f e).2) else rowsX f l (acc ++ [(f e).1])
def widthX (m : Mp) : Nat := ((fieldsB m ++ m.data).foldl (fun a k => max a (k + 1)) 0).toNat
def exportE (vt : Val → Bt) (l : List Ev) (m : Mp) : Bt × Int :=
  if logB l = false ∨ mapB m = false then ([], 1)
  else if (colsL l).length ≠ m.data.length then ([], 29)
  else
    let p := rowsX (rowX vt (colsL l) m (widthX m)) l [headX (colsL l) m (widthX m)]
    if p.2 ≠ 0 then ([], p.2) else writeE m.sep p.1
end Go.Proofs.YtoalecalahkblaaGreatDoor

set_option linter.all false
namespace Go.Proofs.YtoalecalahkblaaGreatDoor
open Go.RowKit
structure MpOk (m : Mp) : Prop where
  cas : 0 ≤ m.cas ∧ m.cas < 40
  act : 0 ≤ m.act ∧ m.act < 40
  time : 0 ≤ m.time ∧ m.time < 40
  res : m.res = -1 ∨ (0 ≤ m.res ∧ m.res < 40)
  life : m.life = -1 ∨ (0 ≤ m.life ∧ m.life < 40)
  data : ∀ k ∈ m.data, 0 ≤ k ∧ k < 40
  len : m.data.length ≤ 8
  kinds : m.kinds.length = m.data.length
  dist : m.cas ≠ m.act ∧ m.cas ≠ m.time ∧ m.act ≠ m.time
theorem mpOk {m : Mp} (h : mapB m = true) : MpOk m := by
  unfold mapB at h
  simp only [Bool.and_eq_true, decide_eq_true_eq, List.all_eq_true] at h
  have hc := h.1.1.2
  unfold colsB at hc
  refine ⟨hc _ (by simp), hc _ (by simp), hc _ (by simp), ?_, ?_, fun k hk => hc _ (by simp [hk]), h.1.1.1.1.2, h.1.1.1.2, ?_⟩
  · by_cases e : m.res = -1
    · exact .inl e
    · exact .inr (hc _ (by simp [e]))
  · by_cases e : m.life = -1
    · exact .inl e
    · exact .inr (hc _ (by simp [e]))
  · have hn := h.1.2
    unfold colsB at hn
    simp only [List.cons_append, List.nil_append, List.nodup_cons, List.mem_cons, not_or] at hn
    exact ⟨hn.1.1, hn.1.2.1, hn.2.1.1⟩
def colsX (m : Mp) : List Int := fieldsB m ++ m.data
theorem colsX_ok {m : Mp} (h : MpOk m) : ∀ k ∈ colsX m, 0 ≤ k ∧ k < 40 := by
  intro k hk
  unfold colsX fieldsB at hk
  rcases List.mem_append.1 hk with hk | hk
  · obtain ⟨hk, h0⟩ := List.mem_filter.1 hk
    have h0 : 0 ≤ k := of_decide_eq_true h0
    simp only [List.mem_cons, List.not_mem_nil, or_false] at hk
    rcases hk with rfl | rfl | rfl | rfl | rfl
    · exact h.cas
    · exact h.act
    · rcases h.res with e | e
      · omega
      · exact e
    · rcases h.life with e | e
      · omega
      · exact e
    · exact h.time
  · exact h.data k hk
def startX (m : Mp) (width : Nat) (e : Ev) : List Bt := setZ (setZ (setZ (List.replicate width []) m.cas e.cas.data.toList) m.act e.act.data.toList) m.time (Lib.itoa e.time)
def resX (m : Mp) (e : Ev) (r : List Bt) : List Bt := if 0 ≤ m.res then setZ r m.res e.res.data.toList else r
def lifeX (m : Mp) (e : Ev) (r : List Bt) : List Bt := if 0 ≤ m.life then setZ r m.life (lifeW.getD (e.life - 1).toNat []) else r
theorem drop_cons {α : Type} {l : List α} {j : Nat} {x : α} (h : l[j]? = some x) : l.drop j = x :: l.drop (j + 1) := by
  obtain ⟨hj, he⟩ := List.getElem?_eq_some_iff.1 h
  rw [List.drop_eq_getElem_cons hj, he]
def vtN (v : Val) : Bt := (textNV v).data.toList
def CLe (r : List Bt) : Prop := ∀ b ∈ r, b.length ≤ 1000000
theorem CLe.setZ {r : List Bt} (h : CLe r) (k : Int) {s : Bt} (hs : s.length ≤ 1000000) : CLe (setZ r k s) := by
  intro b hb
  unfold Go.Proofs.YtoalecalahkblaaGreatDoor.setZ at hb
  rcases List.mem_or_eq_of_mem_set hb with hb | rfl
  · exact h b hb
  · exact hs
structure EvLe (e : Ev) : Prop where
  cas : e.cas.size ≤ 1000000
  act : e.act.size ≤ 1000000
  res : e.res.size ≤ 1000000
  time : Fit e.time
  life : 1 ≤ e.life ∧ e.life ≤ 6
  flds : ∀ f ∈ e.data, fldB f = true
end Go.Proofs.YtoalecalahkblaaGreatDoor

set_option linter.all false
namespace Go.Proofs.YtoalecalahkblaaGreatDoor
open Go.RowKit
def cellAt (r : List Bt) (k : Int) : Bt := r.getD k.toNat []
def headD (r : List Bt) : List Int → List Int → (Int × Int) × Int
  | _, [] => ((0, 0), 0)
  | seen, k :: ks =>
    if (r.length : Int) ≤ k then ((1, k + 1), 10)
    else if isNameB (bsOf (cellAt r k)) = false then ((1, k + 1), 8)
    else if (seen.any fun j => decide (cellAt r j = cellAt r k)) = true then ((1, k + 1), 9)
    else headD r (seen ++ [k]) ks
def headE (r : List Bt) (m : Mp) : (Int × Int) × Int :=
  match (fieldsB m).find? (fun k => decide ((r.length : Int) ≤ k)) with
  | some k => ((1, k + 1), 10)
  | none => headD r [] m.data
def RetPC (p : (Int × Int) × Int) (w : World) (e : Ending) (w' : World) : Prop := e = .returned (.tuple #[.agg #[.int .i64 p.1.1, .int .i64 p.1.2], .int .i64 p.2]) ∧ Below w.heap.size w w'
theorem cellAt_of {r : List Bt} {d : Nat} {s : Bt} (h : r[d]? = some s) : cellAt r (d : Int) = s := by
  unfold cellAt
  rw [Int.toNat_natCast, List.getD_eq_getElem?_getD, h]; rfl
theorem twice_any (r : List Bt) (Ar : Option Addr) (cr p1 p2 : Nat) (j k : Nat) (w : World) (hr : SlP (Lt w.heap.size) w (.slice Ar r.length cr) r) (h1 : w.cell? ⟨p1, 0, none⟩ = some (.slice Ar r.length cr)) (h2 : w.cell? ⟨p2, 0, none⟩ = some (.int .i64 (k : Int))) (hj : j < r.length) (hk : k < r.length) :
    Calls Tryz.prog 96 #[.int .i64 (j : Int), .pointer (some ⟨p1, 0, none⟩), .pointer (some ⟨p2, 0, none⟩)] w fun e w' => e = .returned (.bool (decide (cellAt r (j : Int) = cellAt r (k : Int)))) ∧ Below w.heap.size w w' := by
  obtain ⟨b, o, x, hA, hD, hx, _, hc⟩ := hr.at_ hj
  obtain ⟨b', o', y, hA', hD', hy, _, hc'⟩ := hr.at_ hk
  rw [hA] at hA'
  injection hA' with hA'
  injection hA' with e1 e2
  subst e1 e2 hA
  rw [cellAt_of hx, cellAt_of hy]
  have j0 : (0 : Int) ≤ (j : Int) := by omega
  have j1 : (j : Int) < (r.length : Int) := by omega
  have k0 : (0 : Int) ≤ (k : Int) := by omega
  have k1 : (k : Int) < (r.length : Int) := by omega
  have HE : Hid (((bsOf x).toList == (bsOf y).toList) = decide (x = y)) := by
    show _ = _
    rw [Lib.toList_data, Lib.toList_data]
    show (x == y) = decide (x = y)
    rw [Bool.eq_iff_iff]
    simp
  have heq : ((bsOf x).toList == (bsOf y).toList) = decide (x = y) := HE.out
  obtain ⟨q, hq⟩ : ∃ q, decide (x = y) = q := ⟨_, rfl⟩
  rw [hq] at heq ⊢
  clear hr hx hy hD hD' hq HE
  go_enter Tryz.func96, Tryz.ntmps96
  go_wp2_with fail
  go_quiet (fail)
  go_wp2_with fail
  go_ret
  exact ⟨rfl, bdrawn (Below.refl _ _) _⟩
theorem enters_twice : ∀ args w, (callFunc 96 args).run Tryz.prog w = .ok (.enter 96 args) w := enters_of Tryz.func96 (by kernel_rfl) rfl
theorem find_next {p : Int → Bool} {fs : List Int} {k : Nat} {x : Int} (h : ∀ y ∈ fs.take k, p y = false) (hx : fs[k]? = some x) (hp : p x = true) : fs.find? p = some x := by
  rw [← List.take_append_drop k fs, List.find?_append, List.find?_eq_none.2 (fun y hy => by rw [h y hy]; decide), drop_cons hx]
  simp [hp]
theorem find_none {p : Int → Bool} {fs : List Int} (h : ∀ y ∈ fs, p y = false) : fs.find? p = none := List.find?_eq_none.2 fun y hy => by rw [h y hy]; decide
theorem take_snocI {α : Type} {L : List α} {j : Nat} {x : α} (h : L[j]? = some x) : L.take (j + 1) = L.take j ++ [x] := by
  rw [List.take_add_one, h]; rfl
theorem all_stepF {α : Type} {p : α → Bool} {xs : List α} {i : Nat} {x : α} (h : ∀ y ∈ xs.take i, p y = false) (hx : xs[i]? = some x) (hp : p x = false) : ∀ y ∈ xs.take (i + 1), p y = false := by
  intro y hy
  rw [List.take_add_one, hx] at hy
  rcases List.mem_append.1 hy with hy | hy
  · exact h y hy
  · simp at hy; rw [hy]; exact hp
set_option maxHeartbeats 8000000 in
set_option maxRecDepth 100000 in
theorem header_any (r : List Bt) (rv u : Value) (m : Mp) (w : World) (hr : SlP (Lt w.heap.size) w rv r) (h : IsMp (Lt w.heap.size) w u m) (hok : MpOk m) :
    Calls Tryz.prog 53 #[rv, u] w (RetPC (headE r m) w) := by
  obtain ⟨Ar, cr, rfl, _, _, hr⟩ := hr.open_
  have HF := Lib.hid (fun W hW => fields_any u m W hW)
  have HM := Lib.hid h
  have HOK := Lib.hid hok
  have HRR := Lib.hid hr
  obtain ⟨dv, kv, rfl, hfm, hd, hk⟩ := h
  obtain ⟨Ad, cd, rfl, _, _, hd⟩ := hd.open_
  obtain ⟨Ak, ck, rfl, _, _, hk⟩ := hk.open_
  have HMD := Lib.hid hd
  obtain ⟨z, hz⟩ : ∃ z, (m.sep.toNat : Int) = z := ⟨_, rfl⟩
  unfold mpV at HM HF ⊢
  rw [hz] at HM HF ⊢
  have HFS := Lib.hid (fun k (hk : k ∈ fieldsB m) => (colsX_ok hok k (List.mem_append_left _ hk)))
  have HE : Hid (headE r m = match (fieldsB m).find? (fun k => decide ((r.length : Int) ≤ k)) with | some k => ((1, k + 1), 10) | none => headD r [] m.data) := rfl
  obtain ⟨p, hp⟩ : ∃ p, headE r m = p := ⟨_, rfl⟩
  rw [hp] at HE ⊢
  have hml : m.data.length ≤ 8 := hok.len
  clear hfm hd hk hz hr hok hp
  have hb1 := bone w (.cells #[.slice Ar r.length cr] 51)
  have hB1 := Blk.new w 51 #[.slice Ar r.length cr]
  have hs1 : (w.alloc (.cells #[.slice Ar r.length cr] 51)).heap.size = w.heap.size + 1 := by simp
  obtain ⟨w1, hw1⟩ : ∃ w1, w.alloc (.cells #[.slice Ar r.length cr] 51) = w1 := ⟨_, rfl⟩
  rw [hw1] at hb1 hB1 hs1
  have hb2 := bone w1 (.cells #[.int .i64 m.cas, .int .i64 m.act, .int .i64 m.res, .int .i64 m.life, .int .i64 m.time, .slice Ad m.data.length cd, .slice Ak m.kinds.length ck, .int .u8 z] 33)
  have hB2 := Blk.new w1 33 #[.int .i64 m.cas, .int .i64 m.act, .int .i64 m.res, .int .i64 m.life, .int .i64 m.time, .slice Ad m.data.length cd, .slice Ak m.kinds.length ck, .int .u8 z]
  have hs2 : (w1.alloc (.cells #[.int .i64 m.cas, .int .i64 m.act, .int .i64 m.res, .int .i64 m.life, .int .i64 m.time, .slice Ad m.data.length cd, .slice Ak m.kinds.length ck, .int .u8 z] 33)).heap.size = w.heap.size + 2 := by simp [hs1]
  rw [hs1] at hB2
  obtain ⟨w2, hw2⟩ : ∃ w2, w1.alloc (.cells #[.int .i64 m.cas, .int .i64 m.act, .int .i64 m.res, .int .i64 m.life, .int .i64 m.time, .slice Ad m.data.length cd, .slice Ak m.kinds.length ck, .int .u8 z] 33) = w2 := ⟨_, rfl⟩
  rw [hw2] at hb2 hB2 hs2
  have hb3 := bone w2 (.cells #[.int .i64 0, .int .i64 0] 40)
  have hB3 := Blk.new w2 40 #[.int .i64 0, .int .i64 0]
  rw [hs2] at hB3
  obtain ⟨w3, hw3⟩ : ∃ w3, w2.alloc (.cells #[.int .i64 0, .int .i64 0] 40) = w3 := ⟨_, rfl⟩
  have HB3 : Hid (Below w.heap.size w w3) := by rw [← hw3]; exact bthen (bthen hb1 hb2) hb3
  have HR3 : Hid (Blk w3 w.heap.size 51 #[.slice Ar r.length cr]) := by rw [← hw3]; exact (hB1.now hb2).now hb3
  have HM3 : Hid (Blk w3 (w.heap.size + 1) 33 #[.int .i64 m.cas, .int .i64 m.act, .int .i64 m.res, .int .i64 m.life, .int .i64 m.time, .slice Ad m.data.length cd, .slice Ak m.kinds.length ck, .int .u8 z]) := by rw [← hw3]; exact hB2.now hb3
  have HP3 : Hid (Blk w3 (w.heap.size + 2) 40 #[.int .i64 0, .int .i64 0]) := by rw [← hw3]; exact hB3
  have HW : Hid (((w.alloc (.cells #[.slice Ar r.length cr] 51)).alloc (.cells #[.int .i64 m.cas, .int .i64 m.act, .int .i64 m.res, .int .i64 m.life, .int .i64 m.time, .slice Ad m.data.length cd, .slice Ak m.kinds.length ck, .int .u8 z] 33)).alloc (.cells #[.int .i64 0, .int .i64 0] 40) = w3) := by show _ = _; rw [hw1, hw2, hw3]
  clear hb1 hB1 hs1 hw1 hb2 hB2 hs2 hw2 hb3 hB3 hw3
  go_enter Tryz.func53, Tryz.ntmps53
  go_upto_region 1 with fail
  rw [HW.out]
  clear HW
  obtain ⟨P, hP⟩ : ∃ P, w.heap.size + 2 = P := ⟨_, rfl⟩
  rw [hP] at HP3 ⊢
  have HPP : Hid (w.heap.size ≤ P) := by show _ ≤ P; omega
  have HPN : Hid (w.heap.size ≠ P ∧ w.heap.size + 1 ≠ P) := by show _ ∧ _; omega
  clear hP
  have HFW := Lib.hid (HF.out w3 (HM.out.now HB3.out))
  obtain ⟨c0, c1, c2, c3, c4, c5, c6, c7⟩ := HM3.out.c8m
  go_wp2_with fail
  (with_reducible refine HFW.out.mono ?_)
  rintro _ w4 ⟨v, rfl, hs, hb⟩
  obtain ⟨Af, cf, rfl, hf1, hf2, hs⟩ := hs.open_
  have HS4 := Lib.hid hs
  have HB4 := Lib.hid (bthen HB3.out hb)
  have HR4 := Lib.hid (HR3.out.now hb)
  have HM4 := Lib.hid (HM3.out.now hb)
  have HP4 := Lib.hid (HP3.out.now hb)
  clear hs hb HFW HF c0 c1 c2 c3 c4 c5 c6 c7 HR3 HM3 HP3 HB3
  generalize fieldsB m = fs at *
  have r0 := HR4.out.c1
  obtain ⟨p0, p1⟩ := HP4.out.c2
  have f0 := HP4.out.frozen 0
  have f1 := HP4.out.frozen 1
  go_wp2_with fail
  go_loopw [14] (fun iv wr => ∃ k : Nat, iv = .int .i64 (k : Int) ∧ k ≤ fs.length ∧ Hid (∀ y ∈ fs.take k, decide ((r.length : Int) ≤ y) = false) ∧ w4 = wr) (fun iv _ => fs.length - (intOf iv).toNat)
  case atStart => exact ⟨0, rfl, Nat.zero_le _, Lib.hid (by simp), rfl⟩
  case round =>
    obtain ⟨k, rfl, hk, HK, rfl⟩ := hrel
    by_cases hlt : k < fs.length
    · obtain ⟨b, o, x, rfl, hD, hx, _, d0⟩ := SlI.at_ HS4.out hlt
      have HXX := Lib.hid hx
      have hxb := HFS.out x (List.mem_of_getElem? hx)
      clear hx
      by_cases hxl : (r.length : Int) ≤ x
      · have HPE : Hid (p = ((1, x + 1), 10)) := by
          show _ = _
          rw [HE.out, find_next HK.out HXX.out (decide_eq_true hxl)]
        have hz3 : Blk ((w4.setCell ⟨P, 0, none⟩ (.int .i64 1)).setCell ⟨P, 1, none⟩ (.int .i64 (x + 1))) P 40 #[.int .i64 1, .int .i64 (x + 1)] := HP4.out.put2 _ _
        have HBZ := Lib.hid (bset2' HB4.out HPP.out (.int .i64 1) (.int .i64 (x + 1)))
        go_wp2_with fail
        obtain ⟨r0, r1⟩ := hz3.c2
        generalize (w4.setCell ⟨P, 0, none⟩ (.int .i64 1)).setCell ⟨P, 1, none⟩ (.int .i64 (x + 1)) = wz at *
        refine bodyPost_ret (v := .tuple #[.agg #[.int .i64 1, .int .i64 (x + 1)], .int .i64 10]) (by simp [results, Tryz.results53, go_sem, r0, r1]) rfl ?_
        show RetPC _ _ _ _
        rw [HPE.out]
        exact ⟨rfl, HBZ.out⟩
      · have HK2 := Lib.hid (all_stepF HK.out HXX.out (decide_eq_false hxl))
        go_wp2_with fail
        go_roundw
        case rel => exact ⟨k + 1, by go_num, by omega, HK2, trivial⟩
        case measure => simp [intOf]; omega
    · have hke : k = fs.length := by omega
      have HE2 : Hid (p = headD r [] m.data) := by
        show _ = _
        rw [HE.out, find_none (by have := HK.out; rwa [hke, List.take_of_length_le (Nat.le_refl _)] at this)]
      have hkl : ¬ (k : Int) < (fs.length : Int) := by omega
      clear hke hlt
      obtain ⟨c0, c1, c2, c3, c4, c5, c6, c7⟩ := HM4.out.c8m
      go_wp2_with fail
      clear c0 c1 c2 c3 c4 c5 c6 c7 p0 p1 f0 f1 r0
      go_loopw [29] (fun iv wr => ∃ i : Nat, iv = .int .i64 (i : Int) ∧ i ≤ m.data.length ∧ Hid (p = headD r (m.data.take i) (m.data.drop i)) ∧ Hid (∀ j ∈ m.data.take i, j < (r.length : Int)) ∧ Hid (Below w4.heap.size w4 wr)) (fun iv _ => m.data.length - (intOf iv).toNat)
      case atStart => exact ⟨0, rfl, Nat.zero_le _, HE2, Lib.hid (by simp), Lib.hid (Below.refl _ _)⟩
      case round =>
        obtain ⟨i, rfl, hi, HEi, HJi, HBi⟩ := hrel
        obtain ⟨wo, hwo⟩ : ∃ wo, wr = wo := ⟨_, rfl⟩
        rw [hwo] at HBi ⊢
        clear hwo HE2
        have HRo := Lib.hid (HR4.out.now HBi.out)
        have HMo := Lib.hid (HM4.out.now HBi.out)
        have HPo := Lib.hid (HP4.out.now HBi.out)
        have HB0 := Lib.hid (bthen HB4.out HBi.out)
        by_cases hlt : i < m.data.length
        · obtain ⟨b, o, x, rfl, hD, hx, _, d0⟩ := SlI.at_ (SlI.now HMD.out HB0.out) hlt
          have HXX := Lib.hid hx
          have hxb := HOK.out.data x (List.mem_of_getElem? hx)
          obtain ⟨d, rfl⟩ : ∃ d : Nat, x = (d : Int) := ⟨x.toNat, by omega⟩
          have i0 : (0 : Int) ≤ (i : Int) := by omega
          have i1 : (i : Int) < (m.data.length : Int) := by omega
          have HDD : Hid (p = if (r.length : Int) ≤ (d : Int) then ((1, (d : Int) + 1), 10) else if isNameB (bsOf (cellAt r (d : Int))) = false then ((1, (d : Int) + 1), 8) else if ((m.data.take i).any fun j => decide (cellAt r j = cellAt r (d : Int))) = true then ((1, (d : Int) + 1), 9) else headD r (m.data.take i ++ [(d : Int)]) (m.data.drop (i + 1))) := by
            show _ = _
            rw [HEi.out, drop_cons HXX.out]
            rfl
          clear hx hD
          obtain ⟨c0, c1, c2, c3, c4, c5, c6, c7⟩ := HMo.out.c8m
          have hb9 := bone wo (.cells #[.int .i64 (d : Int)] 3)
          have k9 := Blk.new wo 3 #[.int .i64 (d : Int)]
          have hs9 : (wo.alloc (.cells #[.int .i64 (d : Int)] 3)).heap.size = wo.heap.size + 1 := by simp
          have hb10 := bone (wo.alloc (.cells #[.int .i64 (d : Int)] 3)) (.cells #[.int .i64 1, .int .i64 ((d : Int) + 1)] 40)
          have k10 := Blk.new (wo.alloc (.cells #[.int .i64 (d : Int)] 3)) 40 #[.int .i64 1, .int .i64 ((d : Int) + 1)]
          rw [hs9] at k10
          have k9 := k9.now hb10
          have hbb := bthen hb9 hb10
          go_upto_region 11 with fail
          obtain ⟨w5, hw5⟩ : ∃ w5, (wo.alloc (.cells #[.int .i64 (d : Int)] 3)).alloc (.cells #[.int .i64 1, .int .i64 ((d : Int) + 1)] 40) = w5 := ⟨_, rfl⟩
          rw [hw5] at hbb k9 k10 ⊢
          have HB5 := Lib.hid hbb
          have HK9 := Lib.hid k9
          have HK10 := Lib.hid k10
          have HR5 := Lib.hid (HRo.out.now hbb)
          have HM5 := Lib.hid (HMo.out.now hbb)
          have HP5 := Lib.hid (HPo.out.now hbb)
          have HG9 : Hid (wo.heap.size ≠ P ∧ wo.heap.size + 1 ≠ P) := Lib.hid ⟨fun e => by have := HPo.out.lt; omega, fun e => by have := HPo.out.lt; omega⟩
          obtain ⟨g9, hg9⟩ : ∃ g9, wo.heap.size = g9 := ⟨_, rfl⟩
          rw [hg9] at HK9 HK10 HG9 ⊢
          clear hw5 hbb k9 k10 hb9 hb10 hs9 hg9 d0 c0 c1 c2 c3 c4 c5 c6 c7
          have HB05 := Lib.hid (bthen HB0.out HB5.out)
          have r0 := HR5.out.c1
          have b9 := HK9.out.c1
          obtain ⟨s0, s1⟩ := HK10.out.c2
          obtain ⟨p0, p1⟩ := HP5.out.c2
          have f0 := HP5.out.frozen 0
          have f1 := HP5.out.frozen 1
          have hz3 : Blk ((w5.setCell ⟨P, 0, none⟩ (.int .i64 1)).setCell ⟨P, 1, none⟩ (.int .i64 ((d : Int) + 1))) P 40 #[.int .i64 1, .int .i64 ((d : Int) + 1)] := HP5.out.put2 _ _
          have HBZ := Lib.hid (bset2' HB05.out HPP.out (.int .i64 1) (.int .i64 ((d : Int) + 1)))
          have HZ3 := Lib.hid hz3
          clear hz3
          by_cases hdl : (r.length : Int) ≤ (d : Int)
          · have HPE : Hid (p = ((1, (d : Int) + 1), 10)) := by show _ = _; rw [HDD.out, if_pos hdl]
            go_wp2_with fail
            obtain ⟨q0, q1⟩ := HZ3.out.c2
            generalize (w5.setCell ⟨P, 0, none⟩ (.int .i64 1)).setCell ⟨P, 1, none⟩ (.int .i64 ((d : Int) + 1)) = wz at *
            refine bodyPost_ret (v := .tuple #[.agg #[.int .i64 1, .int .i64 ((d : Int) + 1)], .int .i64 10]) (by simp [results, Tryz.results53, go_sem, q0, q1]) rfl ?_
            show RetPC _ _ _ _
            rw [HPE.out]
            exact ⟨rfl, HBZ.out⟩
          · have hdr : d < r.length := by omega
            obtain ⟨br, or_, s, rfl, hDr, hxr, hsl, cr0⟩ := SlP.at_ (SlP.now HRR.out HB05.out) hdr
            have HNM := Lib.hid (fun W => isName_any (bsOf s) W (by rw [bs_size]; exact hsl))
            have HCA : Hid (cellAt r (d : Int) = s) := Lib.hid (cellAt_of hxr)
            obtain ⟨qn, hqn⟩ : ∃ qn, isNameB (bsOf s) = qn := ⟨_, rfl⟩
            rw [hqn] at HNM
            have HQN := Lib.hid hqn
            have d0 : (0 : Int) ≤ (d : Int) := by omega
            have d1 : (d : Int) < (r.length : Int) := by omega
            clear hqn hxr hDr hsl
            cases qn with
            | false =>
              have HPE : Hid (p = ((1, (d : Int) + 1), 8)) := by show _ = _; rw [HDD.out, if_neg hdl, HCA.out, if_pos HQN.out]
              go_wp2_with fail
              (with_reducible refine (HNM.out _).mono ?_)
              rintro _ wq ⟨rfl, rfl⟩
              go_wp2_with fail
              obtain ⟨q0, q1⟩ := HZ3.out.c2
              generalize (w5.setCell ⟨P, 0, none⟩ (.int .i64 1)).setCell ⟨P, 1, none⟩ (.int .i64 ((d : Int) + 1)) = wz at *
              refine bodyPost_ret (v := .tuple #[.agg #[.int .i64 1, .int .i64 ((d : Int) + 1)], .int .i64 8]) (by simp [results, Tryz.results53, go_sem, q0, q1]) rfl ?_
              show RetPC _ _ _ _
              rw [HPE.out]
              exact ⟨rfl, HBZ.out⟩
            | true =>
              have HDT : Hid (SlI (Lt w5.heap.size) w5 (.slice (some ⟨b, o, none⟩) i cd) (m.data.take i)) := Lib.hid (Sl.take_ (SlI.now HMD.out HB05.out) (by omega))
              have HAK : Hid (AsksF 96 #[.pointer (some ⟨w.heap.size, 0, none⟩), .pointer (some ⟨g9, 0, none⟩)] RInt w5 (m.data.take i) (fun j => decide (cellAt r j = cellAt r (d : Int)))) := by
                intro y v W hy hry hbW
                obtain ⟨h1, _⟩ := hry
                injection h1 with h1
                subst h1
                have hyr := HJi.out y hy
                have hy0 := (HOK.out.data y (List.mem_of_mem_take hy)).1
                obtain ⟨yn, rfl⟩ : ∃ yn : Nat, y = (yn : Int) := ⟨y.toNat, by omega⟩
                exact twice_any r (some ⟨br, or_, none⟩) cr w.heap.size g9 yn d W (SlP.now HRR.out (bthen HB05.out hbW)) (HR5.out.now hbW).c1 (HK9.out.now hbW).c1 (by omega) hdr
              have HCT := Lib.hid (contFI 96 #[.pointer (some ⟨w.heap.size, 0, none⟩), .pointer (some ⟨g9, 0, none⟩)] enters_twice _ (m.data.take i) _ w5 HDT.out HAK.out)
              obtain ⟨qt, hqt⟩ : ∃ qt, ((m.data.take i).any fun j => decide (cellAt r j = cellAt r (d : Int))) = qt := ⟨_, rfl⟩
              rw [hqt] at HCT HDD
              obtain ⟨m0, m1, m2, m3, m4, m5, m6, m7⟩ := HM5.out.c8m
              have hicd : i ≤ cd := by
                obtain ⟨A', c', e1, e2, e3, _⟩ := Sl.open_ (SlI.now HMD.out HB05.out)
                injection e1 with _ _ e1
                omega
              have hcdm : cd ≤ 9223372036854775807 := by
                obtain ⟨A', c', e1, e2, e3, _⟩ := Sl.open_ (SlI.now HMD.out HB05.out)
                have e4 : cd = c' := by injection e1
                omega
              clear hqt
              go_wp2_with fail
              (with_reducible refine (HNM.out _).mono ?_)
              rintro _ wq ⟨rfl, rfl⟩
              go_wp2_with fail
              (with_reducible refine HCT.out.mono ?_)
              rintro _ w6 ⟨rfl, hb6⟩
              have HB6 := Lib.hid hb6
              have HP6 := Lib.hid (HP5.out.now hb6)
              have HK106 := Lib.hid (HK10.out.now hb6)
              have HB06 := Lib.hid (bthen HB05.out hb6)
              clear hb6 p0 p1 f0 f1 s0 s1 r0 b9 m0 m1 m2 m3 m4 m5 m6 m7 HCT HAK
              obtain ⟨s0, s1⟩ := HK106.out.c2
              obtain ⟨p0, p1⟩ := HP6.out.c2
              have f0 := HP6.out.frozen 0
              have f1 := HP6.out.frozen 1
              cases qt with
              | true =>
                have HPE : Hid (p = ((1, (d : Int) + 1), 9)) := by show _ = _; rw [HDD.out, if_neg (show ¬ (r.length : Int) ≤ (d : Int) by omega), HCA.out, if_neg (by rw [HQN.out]; decide), if_pos rfl]
                have HZ6 := Lib.hid (HP6.out.put2 (.int .i64 1) (.int .i64 ((d : Int) + 1)))
                have HBZ6 := Lib.hid (bset2' HB06.out HPP.out (.int .i64 1) (.int .i64 ((d : Int) + 1)))
                go_wp2_with fail
                obtain ⟨q0, q1⟩ := HZ6.out.c2
                generalize (w6.setCell ⟨P, 0, none⟩ (.int .i64 1)).setCell ⟨P, 1, none⟩ (.int .i64 ((d : Int) + 1)) = wz at *
                refine bodyPost_ret (v := .tuple #[.agg #[.int .i64 1, .int .i64 ((d : Int) + 1)], .int .i64 9]) (by simp [results, Tryz.results53, go_sem, q0, q1]) rfl ?_
                show RetPC _ _ _ _
                rw [HPE.out]
                exact ⟨rfl, HBZ6.out⟩
              | false =>
                have HNX : Hid (p = headD r (m.data.take (i + 1)) (m.data.drop (i + 1))) := by
                  show _ = _
                  rw [HDD.out, if_neg (show ¬ (r.length : Int) ≤ (d : Int) by omega), HCA.out, if_neg (by rw [HQN.out]; decide), if_neg (by decide), take_snocI HXX.out]
                have HJX : Hid (∀ j ∈ m.data.take (i + 1), j < (r.length : Int)) := Lib.hid fun j hj => by
                  rw [take_snocI HXX.out] at hj
                  rcases List.mem_append.1 hj with hj | hj
                  · exact HJi.out j hj
                  · rw [List.mem_singleton] at hj; rw [hj]; exact d1
                go_wp2_with fail
                go_roundw
                case rel => exact ⟨i + 1, by go_num, by omega, HNX, HJX, Lib.hid (bthen (bthen HBi.out HB5.out) HB6.out)⟩
                case measure => simp [intOf]; omega
        · have hie : i = m.data.length := by omega
          have HPE : Hid (p = ((0, 0), 0)) := by show _ = _; rw [HEi.out, hie, List.drop_eq_nil_of_le (Nat.le_refl _)]; rfl
          have hil : ¬ (i : Int) < (m.data.length : Int) := by omega
          obtain ⟨p0, p1⟩ := HPo.out.c2
          have f0 := HPo.out.frozen 0
          have f1 := HPo.out.frozen 1
          have HZ6 := Lib.hid (HPo.out.put2 (.int .i64 0) (.int .i64 0))
          have HBZ6 := Lib.hid (bset2' HB0.out HPP.out (.int .i64 0) (.int .i64 0))
          clear hie
          go_wp2_with fail
          obtain ⟨q0, q1⟩ := HZ6.out.c2
          generalize (wo.setCell ⟨P, 0, none⟩ (.int .i64 0)).setCell ⟨P, 1, none⟩ (.int .i64 0) = wz at *
          refine bodyPost_ret (v := .tuple #[.agg #[.int .i64 0, .int .i64 0], .int .i64 0]) (by simp [results, Tryz.results53, go_sem, q0, q1]) rfl ?_
          show RetPC _ _ _ _
          rw [HPE.out]
          exact ⟨rfl, HBZ6.out⟩
end Go.Proofs.YtoalecalahkblaaGreatDoor

set_option linter.all false
namespace Go.Proofs.YtoalecalahkblaaGreatDoor
open Go.RowKit
def natE (s : Bt) : Int × Int :=
  if 15 < s.length then (0, 3)
  else match okOf (Lib.atoiAll s) with
    | none => (0, 3)
    | some n => if n < 0 ∨ Lib.itoa n ≠ s then (0, 3) else if 1099511627776 < n then (0, 2) else (n, 0)
def RetNat (p : Int × Int) (w : World) (e : Ending) (w' : World) : Prop := e = .returned (.tuple #[.int .i64 p.1, .int .i64 p.2]) ∧ Below w.heap.size w w'
theorem natE_fit (s : Bt) : 0 ≤ (natE s).1 ∧ (natE s).1 ≤ 1099511627776 := by
  unfold natE
  split
  · exact ⟨Int.le_refl _, by simp only; omega⟩
  · split
    · exact ⟨Int.le_refl _, by simp only; omega⟩
    · split
      · exact ⟨Int.le_refl _, by simp only; omega⟩
      · split
        · exact ⟨Int.le_refl _, by simp only; omega⟩
        · simp only; omega
theorem itoa_beq (n : Int) (s : ByteArray) : ((itoaS n).toList == s.toList) = decide (Lib.itoa n = s.data.toList) := by
  have h1 : (itoaS n).toList = Lib.itoa n := by rw [Lib.toList_data]; rfl
  have h2 : s.toList = s.data.toList := Lib.toList_data s
  rw [h1, h2]
  by_cases h : Lib.itoa n = s.data.toList
  · rw [decide_eq_true h, h]; exact beq_self_eq_true _
  · rw [decide_eq_false h]; exact beq_false_of_ne h
set_option maxHeartbeats 1000000 in
theorem natural_any (s : ByteArray) (w : World) (hs : s.size ≤ 1000000) (ha : AmbP w) : Calls Tryz.prog 99 #[.string s] w (RetNat (natE s.data.toList) w) := by
  have hlen : s.data.toList.length = s.size := by simp
  by_cases h15 : 15 < s.size
  · have i1 : (15 : Int) < (s.size : Int) := by omega
    have HE : Hid (natE s.data.toList = (0, 3)) := by show _ = _; unfold natE; rw [if_pos (by omega)]
    clear hlen h15
    go_enter Tryz.func99, Tryz.ntmps99
    go_wp2_with fail
    go_ret2
    show RetNat _ _ _ _
    rw [HE.out]
    exact ⟨rfl, Below.refl _ _⟩
  have i1 : ¬ (15 : Int) < (s.size : Int) := by omega
  have HE : Hid (natE s.data.toList = match okOf (Lib.atoiAll s.data.toList) with
    | none => (0, 3)
    | some n => if n < 0 ∨ Lib.itoa n ≠ s.data.toList then (0, 3) else if 1099511627776 < n then (0, 2) else (n, 0)) := by
    show _ = _
    unfold natE
    rw [if_neg (by omega)]
  clear hlen h15
  go_enter Tryz.func99, Tryz.ntmps99
  go_wp2_with fail
  refine (atoi_call s _ hs ha).mono ?_
  rintro e w1 ⟨h, hb1⟩
  have ha1 := ha.now hb1
  rcases h with ⟨n, hn, hf, rfl⟩ | ⟨hn, z, N, rfl⟩
  · rw [hn] at HE
    have HE : Hid (natE s.data.toList = if n < 0 ∨ Lib.itoa n ≠ s.data.toList then (0, 3) else if 1099511627776 < n then (0, 2) else (n, 0)) := HE
    by_cases h0 : n < 0
    · have HN : Hid (natE s.data.toList = (0, 3)) := by show _ = _; rw [HE.out, if_pos (.inl h0)]
      clear hn HE
      go_wp2_with fail
      go_ret2
      show RetNat _ _ _ _
      rw [HN.out]
      exact ⟨rfl, hb1⟩
    · have HI := Lib.hid (itoa_any n _ hf ha1)
      have HF := Lib.hid hf
      have hq := itoa_beq n s
      obtain ⟨q, hqq⟩ : ∃ q, ((itoaS n).toList == s.toList) = q := ⟨_, rfl⟩
      rw [hqq] at hq
      have HQ := Lib.hid hq
      have e1 : ((itoaS n).toList != s.toList) = !q := by show (!((itoaS n).toList == s.toList)) = _; rw [hqq]
      clear hn hf hq
      cases q with
      | false =>
        have HN : Hid (natE s.data.toList = (0, 3)) := by show _ = _; rw [HE.out, if_pos (.inr (of_decide_eq_false HQ.out.symm))]
        clear HE
        go_wp2_with fail
        refine HI.out.mono ?_
        rintro e w2 ⟨rfl, hb2⟩
        clear HI
        go_wp2_with fail
        go_ret2
        show RetNat _ _ _ _
        rw [HN.out]
        exact ⟨rfl, bthen hb1 hb2⟩
      | true =>
        have HE2 : Hid (natE s.data.toList = if 1099511627776 < n then (0, 2) else (n, 0)) := by show _ = _; rw [HE.out, if_neg (by rintro (h | h); exact h0 h; exact h (of_decide_eq_true HQ.out.symm))]
        clear HE
        by_cases hbig : 1099511627776 < n
        · have HN : Hid (natE s.data.toList = (0, 2)) := by show _ = _; rw [HE2.out, if_pos hbig]
          go_wp2_with fail
          refine HI.out.mono ?_
          rintro e w2 ⟨rfl, hb2⟩
          clear HI
          go_wp2_with fail
          go_ret2
          show RetNat _ _ _ _
          rw [HN.out]
          exact ⟨rfl, bthen hb1 hb2⟩
        · have HN : Hid (natE s.data.toList = (n, 0)) := by show _ = _; rw [HE2.out, if_neg hbig]
          go_wp2_with fail
          refine HI.out.mono ?_
          rintro e w2 ⟨rfl, hb2⟩
          clear HI
          go_wp2_with fail
          go_ret2
          show RetNat _ _ _ _
          rw [HN.out]
          exact ⟨rfl, bthen hb1 hb2⟩
  · rw [hn] at HE
    have HN : Hid (natE s.data.toList = (0, 3)) := HE
    clear hn HE
    go_wp2_with fail
    go_ret2
    show RetNat _ _ _ _
    rw [HN.out]
    exact ⟨rfl, hb1⟩
end Go.Proofs.YtoalecalahkblaaGreatDoor

set_option linter.all false
namespace Go.Proofs.YtoalecalahkblaaGreatDoor
open Go.RowKit
def RowBi (w : World) (g : Nat) (l : List UInt8) : Prop := ∀ k c, l[k]? = some c → w.cell? ⟨g, k, none⟩ = some (.int .u8 (c.toNat : Int))
theorem any_false_i {α : Type} (p : α → Bool) (xs : List α) (h : ∀ q y, q < xs.length → xs[q]? = some y → p y = false) : xs.any p = false := by
  rw [List.any_eq_false]
  intro x hx
  obtain ⟨q, hq, rfl⟩ := List.mem_iff_getElem.1 hx
  rw [h q _ hq (List.getElem?_eq_getElem hq)]; simp
theorem rowB_newi (w : World) (s : ByteArray) (cap t : Nat) (fr : Nat × Nat) : RowBi (w.alloc (.cells (bytesRow s cap) t fr)).drew w.heap.size s.data.toList := by
  intro k c hk
  rw [Array.getElem?_toList] at hk
  have hkl : k < s.data.size := by
    rcases Nat.lt_or_ge k s.data.size with h | h
    · exact h
    · rw [Array.getElem?_eq_none h] at hk; cases hk
  have h1 : (w.alloc (.cells (bytesRow s cap) t fr)).drew.heap[w.heap.size]? = some (.cells (bytesRow s cap) t fr) := by
    show (w.heap.push _)[w.heap.size]? = _
    simp
  simp only [World.cell?, h1]
  simp only [Option.isSome_none, Bool.false_eq_true, if_false]
  unfold bytesRow
  rw [Array.getElem?_append_left (by simpa using hkl), Array.getElem?_map, hk]
  rfl
theorem prt1_any (c : UInt8) (w : World) : Calls Tryz.prog 42 #[.int .u8 (c.toNat : Int)] w fun e w' => e = .returned (.bool (!printB c)) ∧ w = w' := by
  have HP := Lib.hid (printable_any c)
  generalize printB c = q at *
  generalize (c.toNat : Int) = z at *
  go_enter Tryz.func42, Tryz.ntmps42
  go_wp2_with fail
  (with_reducible refine (HP.out _).mono ?_)
  rintro _ w' ⟨rfl, rfl⟩
  go_wp2_with fail
  go_ret
  exact ⟨rfl, rfl⟩
set_option maxHeartbeats 400000 in
theorem indexPrB (g c : Nat) (l : List UInt8) (w : World) (hl : l.length ≤ 1000000) (h : RowBi w g l) :
    Calls Tryz.prog 91 #[.slice (some ⟨g, 0, none⟩) l.length c, .func (.func 42) #[] #[]] w fun e w' => ∃ z : Int, e = .returned (.int .i64 z) ∧ decide (0 ≤ z) = (l.any fun x => !printB x) ∧ w = w' := by
  have eg : ∀ args w, (callFunc 42 args).run Tryz.prog w = .ok (.enter 42 args) w := enters_of Tryz.func42 (by kernel_rfl) rfl
  have HH := Lib.hid h
  clear h
  go_enter Tryz.func91, Tryz.ntmps91
  go_wp2_with fail
  go_loopw [8] (fun i wr => ∃ j : Nat, j ≤ l.length ∧ i = .int .i64 j ∧ (∀ q t, q < j → l[q]? = some t → (!printB t) = false) ∧ wr = w) (fun i _ => l.length - (intOf i).toNat)
  case atStart => exact ⟨0, Nat.zero_le _, rfl, fun q _ h => absurd h (by omega), rfl⟩
  case round =>
    obtain ⟨j, hj, rfl, hp, rfl⟩ := hrel
    have HP := Lib.hid hp
    clear hp
    by_cases hlt : j < l.length
    · have HX : Hid (l[j]? = some l[j]) := List.getElem?_eq_getElem hlt
      have c0 := HH.out j _ HX.out
      have HC := Lib.hid (fun W => prt1_any l[j] W)
      generalize l[j] = x at *
      generalize hq : printB x = q at *
      have HQ := Lib.hid hq
      clear hq
      cases q
      · go_wp2_with (go_at_fn 42; refine (HC.out _).mono ?_; rintro e w' ⟨rfl, rfl⟩)
        go_ret
        refine ⟨_, rfl, ?_, rfl⟩
        have : (l.any fun x => !printB x) = true := List.any_eq_true.2 ⟨x, List.mem_of_getElem? HX.out, by rw [HQ.out]; rfl⟩
        rw [this]
        simp
      · go_wp2_with (go_at_fn 42; refine (HC.out _).mono ?_; rintro e w' ⟨rfl, rfl⟩)
        go_roundw
        case rel =>
          refine ⟨j + 1, by omega, by go_num, fun q y hq hy => ?_, trivial⟩
          by_cases e : q = j
          · subst e; rw [HX.out] at hy; injection hy with hy; subst hy; rw [HQ.out]; rfl
          · exact HP.out q y (by omega) hy
        case measure => simp [intOf]; omega
    · go_wp2_with fail
      go_ret
      refine ⟨_, rfl, ?_, rfl⟩
      rw [any_false_i _ l (fun q y hq hy => HP.out q y (by omega) hy)]
      simp
theorem containsPrB (g c : Nat) (l : List UInt8) (w : World) (hl : l.length ≤ 1000000) (h : RowBi w g l) :
    Calls Tryz.prog 41 #[.slice (some ⟨g, 0, none⟩) l.length c, .func (.func 42) #[] #[]] w fun e w' => e = .returned (.bool (l.any fun x => !printB x)) ∧ w = w' := by
  have HC := Lib.hid (indexPrB g c l w hl h)
  clear h
  go_enter Tryz.func41, Tryz.ntmps41
  go_wp2_with (go_at_call 91; refine HC.out.mono ?_; rintro e w' ⟨z, rfl, hz, rfl⟩)
  go_ret
  exact ⟨rfl, rfl⟩
theorem cellBad_any (s : ByteArray) (w : World) (hs : s.size ≤ 1000000) : Calls Tryz.prog 40 #[.string s] w fun e w' => e = .returned (.bool (s.data.toList.any fun c => !printB c)) ∧ Below w.heap.size w w' := by
  have hconv := fun w => run_bytes_of_string (P := Tryz.prog) w 9 72 5 s Tryz.underlying9 Tryz.underlying72 Tryz.underlying5
  go_enter Tryz.func40, Tryz.ntmps40
  go_wp2_with fail
  refine (containsPrB w.heap.size _ s.data.toList _ (by rw [Array.length_toList]; show s.size ≤ _; omega) (rowB_newi w s _ _ _)).mono ?_
  rintro e w1 ⟨rfl, rfl⟩
  obtain ⟨q, hq⟩ : ∃ q, (s.data.toList.any fun x => !printB x) = q := ⟨_, rfl⟩
  rw [hq]
  have HQ := Lib.hid hq
  clear hq
  go_wp2_with fail
  go_ret
  exact ⟨ret_bool HQ.out.symm, (bone w _).drew⟩
theorem enters_cellBad : ∀ args w, (callFunc 40 args).run Tryz.prog w = .ok (.enter 40 args) w := enters_of Tryz.func40 (by kernel_rfl) rfl
theorem any_not_print (l : Bt) : (l.any fun x => !printB x) = !l.all printB := by
  induction l with
  | nil => rfl
  | cons a m ih => simp [List.any_cons, List.all_cons, ih]
theorem rowBad_eq : ∀ r : List Bt, ((r.map bsOf).any fun s => s.data.toList.any fun c => !printB c) = !r.all fun b => b.all printB
  | [] => rfl
  | b :: r => by
    have ih := rowBad_eq r
    have hb := any_not_print b
    rw [List.map_cons, List.any_cons, List.all_cons, ih]
    show ((b.any fun c => !printB c) || _) = _
    rw [hb]
    cases (b.all printB) <;> cases (r.all fun b => b.all printB) <;> rfl
theorem rowBad_any (v : Value) (r : List Bt) (w : World) (h : SlP (Lt w.heap.size) w v r) (hl : ∀ b ∈ r, b.length ≤ 1000000) :
    Calls Tryz.prog 28 #[v, .func (.func 40) #[] #[]] w fun e w' => e = .returned (.bool (!r.all fun b => b.all printB)) ∧ Below w.heap.size w w' := by
  have hf : AsksF 40 #[] RStr w (r.map bsOf) (fun s => s.data.toList.any fun c => !printB c) := by
    intro x u W hx hr _
    obtain ⟨rfl, _⟩ : u = .string x ∧ x.size ≤ maxLen := by
      obtain ⟨h1, h2⟩ := hr
      injection h1 with h1
      exact ⟨h1, h2⟩
    obtain ⟨b, hb, rfl⟩ := List.mem_map.1 hx
    exact cellBad_any (bsOf b) W (by rw [bs_size]; exact hl b hb)
  have hc := contFS 40 #[] enters_cellBad v (r.map bsOf) _ w h hf
  have e := rowBad_eq r
  rw [e] at hc
  exact hc
end Go.Proofs.YtoalecalahkblaaGreatDoor

set_option linter.all false
namespace Go.Proofs.YtoalecalahkblaaGreatDoor
open Go.RowKit
structure RowW (w : World) (B g : Nat) (l : List UInt8) : Prop where
  cell : RowBi w g l
  froz : ∀ k, k < l.length → w.frozen? ⟨g, k, none⟩ = false
  lt : g < w.heap.size
  ge : B ≤ g
theorem RowW.set_ {w : World} {B g : Nat} {l : List UInt8} (h : RowW w B g l) (k : Nat) (c : UInt8) : RowW (w.setCell ⟨g, k, none⟩ (.int .u8 (c.toNat : Int))) B g (l.set k c) := by
  refine ⟨fun j d hj => ?_, fun j hj => ?_, by simpa using h.lt, h.ge⟩
  · have hjl : j < l.length := by
      rcases Nat.lt_or_ge j (l.set k c).length with h' | h'
      · simpa using h'
      · rw [List.getElem?_eq_none h'] at hj; cases hj
    have hc := h.cell j l[j] (List.getElem?_eq_getElem hjl)
    by_cases e : k = j
    · subst e
      rw [List.getElem?_set_self hjl] at hj
      injection hj with hj; subst hj
      exact World.cell?_setCell_same (w := w) (a := ⟨g, k, none⟩) (v := .int .u8 (c.toNat : Int)) hc
    · rw [List.getElem?_set_ne e] at hj
      rw [World.cell?_setCell_other (w := w) (a := ⟨g, k, none⟩) (b := ⟨g, j, none⟩) (v := .int .u8 (c.toNat : Int)) (fun h' => e (by injection h'))]
      exact h.cell j d hj
  · rw [World.frozen?_setCell]
    exact h.froz j (by simpa using hj)
theorem RowW.now {w w' : World} {B g : Nat} {l : List UInt8} (h : RowW w B g l) (hb : Below w.heap.size w w') : RowW w' B g l := by
  have hg := hb.block g h.lt
  refine ⟨fun k c hk => ?_, fun k hk => ?_, Nat.lt_of_lt_of_le h.lt hb.size, h.ge⟩
  · rw [← h.cell k c hk]; simp only [World.cell?, hg]
  · rw [← h.froz k hk]; simp only [World.frozen?, hg]
theorem RowW.conv {w : World} {B g : Nat} {l : List UInt8} (h : RowW w B g l) (cap : Nat) : (convert 72 9 (.slice (some ⟨g, 0, none⟩) l.length cap)).run Tryz.prog w = .ok (.string (bsOf l)) w := by
  refine run_convert_bytes_back w _ _ _ ⟨g, 0, none⟩ cap l Tryz.underlying72 Tryz.underlying5 Tryz.underlying9 (fun j hj => ?_)
  have e : ((⟨g, 0, none⟩ : Addr).add j) = ⟨g, j, none⟩ := by unfold Addr.add; by_cases hj : j = 0 <;> simp [hj]
  rw [e]
  exact h.cell j _ (List.getElem?_eq_getElem hj)
def lowN (l : Bt) (j : Nat) : Bt := (l.take j).map lowB ++ l.drop j
def SmPost (s : ByteArray) (w : World) (e : Ending) (w' : World) : Prop := e = .returned (.string (bsOf (smallB s.data.toList))) ∧ Below w.heap.size w w'
end Go.Proofs.YtoalecalahkblaaGreatDoor

set_option linter.all false
namespace Go.Proofs.YtoalecalahkblaaGreatDoor
open Go.RowKit
def SmlP (s : ByteArray) (w : World) (e : Ending) (w' : World) : Prop := e = .returned (.string (bsOf (smallB s.data.toList))) ∧ Below w.heap.size w w'
end Go.Proofs.YtoalecalahkblaaGreatDoor
