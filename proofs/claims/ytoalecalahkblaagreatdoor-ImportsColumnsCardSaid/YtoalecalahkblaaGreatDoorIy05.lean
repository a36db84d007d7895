/- Texts of this seat, merged. -/
import Derived.Lib.AtoiErrMem
import Derived.Shelf.Strconv.ErrVarAll
import Derived.Test.YtoalecalahkblaaGreatDoorIy01
import Derived.Test.YtoalecalahkblaaGreatDoorIy02
import Derived.Test.YtoalecalahkblaaGreatDoorIy03
import Derived.Test.YtoalecalahkblaaGreatDoorIy04
set_option linter.all false
set_option linter.all false
namespace Go.Proofs.YtoalecalahkblaaGreatDoor
open Go.RowKit
def nmOf (f : Fld) : Bs := f.nm.data.toList
def namesE (e : Ev) : List Bs := e.data.map nmOf
def namesTo (l : List Ev) (i : Nat) : List Bs := (l.take i).flatMap namesE
def colsL (l : List Ev) : List Bs := setB (namesTo l l.length)
theorem namesTo_step {l : List Ev} {i : Nat} {e : Ev} (h : l[i]? = some e) : namesTo l (i + 1) = namesTo l i ++ namesE e := by
  unfold namesTo
  rw [List.take_add_one, h, List.flatMap_append]
  simp
theorem namesE_step {e : Ev} {j : Nat} {f : Fld} (h : e.data[j]? = some f) : (e.data.take (j + 1)).map nmOf = (e.data.take j).map nmOf ++ [nmOf f] := by
  rw [List.take_add_one, h, List.map_append]; rfl
theorem namesTo_le (l : List Ev) {i : Nat} : (namesTo l i).length ≤ (namesTo l l.length).length := by
  unfold namesTo
  rw [List.take_of_length_le (Nat.le_refl _)]
  conv => rhs; rw [← List.take_append_drop i l, List.flatMap_append, List.length_append]
  omega
def FitN (l : List Ev) : Prop := ∀ e ∈ l, ∀ f ∈ e.data, f.nm.size ≤ maxLen
set_option maxHeartbeats 2000000 in
set_option maxRecDepth 100000 in
theorem columns_any (u : Value) (l : List Ev) (w : World) (h : IsLog (Lt w.heap.size) w u l) (hl : (namesTo l l.length).length ≤ 1000) (hf : FitN l) :
    Calls Tryz.prog 86 #[u] w fun e w' => ∃ v, e = .returned v ∧ SlS (Lt w'.heap.size) w' v ((colsL l).map mkS) ∧ Below w.heap.size w w' := by
  obtain ⟨ev, rfl, hs⟩ := h
  obtain ⟨A, c, rfl, h1, h2, hs⟩ := hs.open_
  have HL := Lib.hid hl
  have HF := Lib.hid hf
  have HS := Lib.hid hs
  have hB := Blk.new w 38 #[.slice A l.length c]
  have hb := bone w (.cells #[.slice A l.length c] 38)
  clear hl hf hs
  go_enter Tryz.func86, Tryz.ntmps86
  go_upto_region 2 with fail
  obtain ⟨w1, hw1⟩ : ∃ w1, w.alloc (.cells #[.slice A l.length c] 38) = w1 := ⟨_, rfl⟩
  rw [hw1] at hB hb ⊢
  clear hw1
  have c0 := hB.c1
  have HB1 := Lib.hid hb
  have HLT : Hid (w.heap.size < w1.heap.size) := hB.lt
  clear hB hb
  obtain ⟨g, hg⟩ : ∃ g, w.heap.size = g := ⟨_, rfl⟩
  rw [hg] at c0 HLT ⊢
  have HG := Lib.hid hg
  clear hg
  go_wp2_with fail
  clear c0
  go_loopw [3, 11] (fun ov iv wr => ∃ i : Nat, iv = .int .i64 (i : Int) ∧ i ≤ l.length ∧ Hid (OwnS wr w1.heap.size ov (namesTo l i)) ∧ Hid (Below w1.heap.size w1 wr)) (fun _ iv _ => l.length - (intOf iv).toNat)
  case atStart => exact ⟨0, rfl, Nat.zero_le _, Lib.hid (World.ownsRow_nil _ _ _ _), Lib.hid (Below.refl _ _)⟩
  case round =>
    obtain ⟨i, rfl, hi, HO, HB⟩ := hrel
    by_cases hlt : i < l.length
    · obtain ⟨b, o, e, dv, rfl, hD, hx, _, hdv, r0, r1, r2, r3, r4, r5⟩ := SlEv.at_ (Sl.keep HS.out REv.kept (fun _ => id) (Same.of_below (HB1.out.trans (HB.out.mono HB1.out.size)))) hlt
      obtain ⟨Ad, cd, rfl, d1, d2, hdv⟩ := hdv.open_
      have hbe := bone wr (.cells #[.string e.cas, .string e.act, .string e.res, .int .i64 e.life, .int .i64 e.time, .slice Ad e.data.length cd] 69)
      have hE := Blk.new wr 69 #[.string e.cas, .string e.act, .string e.res, .int .i64 e.life, .int .i64 e.time, .slice Ad e.data.length cd]
      have HX := Lib.hid hx
      have HDV := Lib.hid hdv
      have HOB := Lib.hid (own_now HO.out hbe)
      have HBE := Lib.hid (bthen HB.out hbe)
      clear hx hdv
      go_upto_region 5 with fail
      obtain ⟨wt, hwt⟩ : ∃ wt, wr.alloc (.cells #[.string e.cas, .string e.act, .string e.res, .int .i64 e.life, .int .i64 e.time, .slice Ad e.data.length cd] 69) = wt := ⟨_, rfl⟩
      rw [hwt] at hE HOB HBE ⊢
      rw [hwt] at hbe
      have hwr := (HB1.out.trans (HB.out.mono HB1.out.size)).size
      have HDT : Hid (SlFl (Lt w.heap.size) wt (.slice Ad e.data.length cd) e.data) := Lib.hid (Sl.keep HDV.out RFld.kept (fun _ => id) (Same.of_below (hbe.mono hwr)))
      obtain ⟨e0, e1, e2, e3, e4, e5⟩ := hE.c6
      clear hwt hbe hwr hE r0 r1 r2 r3 r4 r5 HO HB HDV
      go_wp2_with fail
      clear e0 e1 e2 e3 e4 e5
      go_loopw [3, 18] (fun ov jv wy => ∃ j : Nat, jv = .int .i64 (j : Int) ∧ j ≤ e.data.length ∧ Hid (OwnS wy w1.heap.size ov (namesTo l i ++ (e.data.take j).map nmOf)) ∧ Hid (Below w1.heap.size w1 wy) ∧ Hid (Below w1.heap.size wt wy)) (fun _ jv _ => e.data.length - (intOf jv).toNat)
      case atStart => exact ⟨0, rfl, Nat.zero_le _, Lib.hid (by rw [List.take_zero, List.map_nil, List.append_nil]; exact HOB.out), HBE, Lib.hid (Below.refl _ _)⟩
      case round =>
        obtain ⟨j, rfl, hj, HOj, HBj, HTj⟩ := hrel
        obtain ⟨wy, hwy⟩ : ∃ wy, wr = wy := ⟨_, rfl⟩
        rw [hwy] at HOj HBj HTj ⊢
        clear hwy
        have HLE : Hid ((namesTo l i ++ (e.data.take j).map nmOf).length < 10000000) := by
          show _ < _
          have q1 := namesTo_le l (i := i + 1)
          rw [namesTo_step HX.out, List.length_append] at q1
          have q2 := HL.out
          have q3 : (namesE e).length = e.data.length := by unfold namesE; rw [List.length_map]
          rw [List.length_append, List.length_map, List.length_take]
          omega
        by_cases hjl : j < e.data.length
        · obtain ⟨b2, o2, f, rfl, hD2, hx2, _, t0, t1, t2, t3⟩ := SlFl.at_ (Sl.keep HDT.out RFld.kept (fun _ => id) (Same.of_below (HTj.out.mono HB1.out.size))) hjl
          have HX2 := Lib.hid hx2
          have hbf := bone wy (.cells #[.string f.nm, .int .i64 f.v.kind, .int .i64 f.v.n, .string f.v.s] 123)
          have hF := Blk.new wy 123 #[.string f.nm, .int .i64 f.v.kind, .int .i64 f.v.n, .string f.v.s]
          have HOf := Lib.hid (own_now HOj.out hbf)
          have HBf := Lib.hid (bthen HBj.out hbf)
          have HTf := Lib.hid (HTj.out.trans (hbf.mono HBj.out.size))
          clear hx2
          go_upto_region 8 with fail
          obtain ⟨wf, hwf⟩ : ∃ wf, wy.alloc (.cells #[.string f.nm, .int .i64 f.v.kind, .int .i64 f.v.n, .string f.v.s] 123) = wf := ⟨_, rfl⟩
          rw [hwf] at hF HOf HBf HTf ⊢
          clear hwf hbf t0 t1 t2 t3 HOj HBj HTj
          obtain ⟨f0, f1, f2, f3⟩ := hF.c4
          clear hF
          have HMK : Hid (Value.string f.nm = encStr (nmOf f)) := by
            show _ = Value.string (mkS f.nm.data.toList)
            rw [mkS_of]
          go_wp2_with (at_builtin; refine wpList_push appStr rfl (.tmp 22) (.tmp 25) rfl wf [.string f.nm] rfl (by simp [Value.oneCell']) _ (namesTo l i ++ (e.data.take j).map nmOf).length ((namesTo l i ++ (e.data.take j).map nmOf).map encStr) rfl HOf.out rfl HLE.out HBf.out.size ?_; intro v' w' hown' hgr hat)
          have hbg : Below w1.heap.size wf w' := below_of_grown hgr HBf.out.size (fun g hg => (World.ownsRow.lt HOf.out g hg).1)
          go_roundw
          case rel =>
            refine ⟨j + 1, by go_num, by omega, Lib.hid ?_, Lib.hid (HBf.out.trans hbg), Lib.hid (HTf.out.trans hbg)⟩
            rw [namesE_step HX2.out, ← List.append_assoc]
            unfold OwnS
            rw [List.length_append, List.map_append]
            rw [HMK.out] at hown'
            exact hown'
          case measure => simp [intOf]; omega
        · have hje : j = e.data.length := by omega
          have HEND : Hid (OwnS wy w1.heap.size _ (namesTo l (i + 1))) := Lib.hid (by
            rw [namesTo_step HX.out]
            have := HOj.out
            rw [hje, List.take_of_length_le (Nat.le_refl _)] at this
            exact this)
          have hjn : ¬ (j : Int) < (e.data.length : Int) := by omega
          clear hje hjl
          go_wp2_with fail
          go_roundw
          case rel => exact ⟨i + 1, by go_num, by omega, HEND, HBj⟩
          case measure => simp [intOf]; omega
    · have hie : i = l.length := by omega
      have hil : ¬ (i : Int) < (l.length : Int) := by omega
      rw [hie] at HO
      have HFS : Hid (∀ s ∈ colsL l, s.length ≤ maxLen) := Lib.hid fun s hs => by
        have := (setB_mem _ s).1 hs
        unfold namesTo at this
        rw [List.take_of_length_le (Nat.le_refl _)] at this
        obtain ⟨e, he, hs⟩ := List.mem_flatMap.1 this
        obtain ⟨f, hf, rfl⟩ := List.mem_map.1 hs
        have := HF.out e he f hf
        unfold nmOf
        rw [Array.length_toList]; exact this
      have hsl := sortB_len (namesTo l l.length)
      have HSL : Hid ((sortB (namesTo l l.length)).length ≤ 1000) := Lib.hid (by rw [hsl]; exact HL.out)
      clear hie hlt hsl
      go_wp2_with fail
      refine (sortStrs _ _ _ _ HO.out HL.out).mono ?_
      rintro e w2 ⟨rfl, hown2, hb2⟩
      have HO2 := Lib.hid hown2
      have HB2 := Lib.hid (HB.out.trans hb2)
      clear hown2 hb2
      go_wp2_with fail
      refine (compactS _ _ _ _ HO2.out HSL.out HFS.out).mono ?_
      rintro e w3 ⟨v', rfl, hsl', hb3⟩
      go_wp2_with fail
      go_ret
      exact ⟨_, rfl, hsl', HB1.out.trans ((HB2.out.trans hb3).mono HB1.out.size)⟩
end Go.Proofs.YtoalecalahkblaaGreatDoor

set_option linter.all false
namespace Go.Proofs.YtoalecalahkblaaGreatDoor
open Go.RowKit
structure Mp where
  cas : Int
  act : Int
  res : Int
  life : Int
  time : Int
  data : List Int
  kinds : List Int
  sep : UInt8
def Mp.zero : Mp := ⟨0, 0, 0, 0, 0, [], [], 0⟩
def colsB (m : Mp) : List Int := ([m.cas, m.act, m.time] ++ m.data) ++ (if m.res = -1 then [] else [m.res]) ++ (if m.life = -1 then [] else [m.life])
def distB : List Int → Bool
  | [] => true
  | x :: r => !r.contains x && distB r
def kindB (k : Int) : Bool := decide (k = 1) || decide (k = 2) || decide (k = 3)
def mapB (m : Mp) : Bool := isSep m.sep && decide (m.data.length ≤ 8) && decide (m.kinds.length = m.data.length) && (colsB m).all (fun k => decide (0 ≤ k) && decide (k < 40)) && decide (colsB m).Nodup && m.kinds.all kindB
def lowB (c : UInt8) : UInt8 := if 65 ≤ c ∧ c ≤ 90 then c + 32 else c
def smallB (s : Bt) : Bt := s.map lowB
def findB (ws cells : List Bt) : Int := match cells.findIdx? (fun s => decide (smallB s ∈ ws)) with
  | some i => (i : Int)
  | none => -1
def pickB (taken : List Int) : Nat → List Bt → List Int → List Bt → List Int
  | _, _, data, [] => data
  | i, seen, data, s :: r =>
    if data.length = 8 ∨ (i : Int) ∈ taken ∨ isNameB ⟨s.toArray⟩ = false ∨ s ∈ seen then pickB taken (i + 1) seen data r
    else pickB taken (i + 1) (seen ++ [s]) (data ++ [(i : Int)]) r
def fieldsB (m : Mp) : List Int := [m.cas, m.act, m.res, m.life, m.time].filter fun k => decide (0 ≤ k)
structure Wds where
  cas : List Bt
  act : List Bt
  res : List Bt
  life : List Bt
  time : List Bt
def guessE (W : Wds) (cells : List Bt) : Mp × Int :=
  if 40 < cells.length then (Mp.zero, 5)
  else
    let m : Mp := ⟨findB W.cas cells, findB W.act cells, findB W.res cells, findB W.life cells, findB W.time cells, [], [], 44⟩
    if m.cas < 0 ∨ m.act < 0 ∨ m.time < 0 then (Mp.zero, 10)
    else
      let d := pickB (fieldsB m) 0 [] [] cells
      ({ m with data := d, kinds := List.replicate d.length 3 }, 0)
structure Apart (W : Wds) : Prop where
  ca : ∀ x ∈ W.cas, x ∉ W.act
  cr : ∀ x ∈ W.cas, x ∉ W.res
  cl : ∀ x ∈ W.cas, x ∉ W.life
  ct : ∀ x ∈ W.cas, x ∉ W.time
  ar : ∀ x ∈ W.act, x ∉ W.res
  al : ∀ x ∈ W.act, x ∉ W.life
  at_ : ∀ x ∈ W.act, x ∉ W.time
  tr : ∀ x ∈ W.time, x ∉ W.res
  tl : ∀ x ∈ W.time, x ∉ W.life
  rl : ∀ x ∈ W.res, x ∉ W.life
end Go.Proofs.YtoalecalahkblaaGreatDoor

set_option linter.all false
namespace Go.Proofs.YtoalecalahkblaaGreatDoor
open Go.RowKit
def setZ (r : List Bt) (k : Int) (s : Bt) : List Bt := r.set k.toNat s
def lifeW : List Bt := [[115, 99, 104, 101, 100, 117, 108, 101], [115, 116, 97, 114, 116], [115, 117, 115, 112, 101, 110, 100], [114, 101, 115, 117, 109, 101], [99, 111, 109, 112, 108, 101, 116, 101], [97, 98, 111, 114, 116]]
def cellV (vt : Val → Bt) (v : Val) : Bt := if v.kind = 3 then v.s.data.toList else vt v
def datR (vt : Val → Bt) (names : List Bs) (m : Mp) : List Fld → List Bt → Option (List Bt)
  | [], r => some r
  | f :: fs, r =>
    let k := names.idxOf (nmOf f)
    if f.v.kind ≠ m.kinds.getD k 0 ∨ cellV vt f.v = [] then none
    else datR vt names m fs (setZ r (m.data.getD k 0) (cellV vt f.v))
def rowX (vt : Val → Bt) (names : List Bs) (m : Mp) (width : Nat) (e : Ev) : List Bt × Int :=
  if m.res < 0 ∧ e.res.data.toList ≠ [] then ([], 12)
  else if m.life < 0 ∧ e.life ≠ 5 then ([], 20)
  else
    let r0 := setZ (setZ (setZ (List.replicate width []) m.cas e.cas.data.toList) m.act e.act.data.toList) m.time (Lib.itoa e.time)
    let r1 := if 0 ≤ m.res then setZ r0 m.res e.res.data.toList else r0
    let r2 := if 0 ≤ m.life then setZ r1 m.life (lifeW.getD (e.life - 1).toNat []) else r1
    match datR vt names m e.data r2 with
    | none => ([], 11)
    | some r => (r, 0)
def headX (names : List Bs) (m : Mp) (width : Nat) : List Bt :=
  let r0 := setZ (setZ (setZ (List.replicate width []) m.cas [99, 97, 115, 101]) m.act [97, 99, 116, 105, 118, 105, 116, 121]) m.time [116, 105, 109, 101]
  let r1 := if 0 ≤ m.res then setZ r0 m.res [114, 101, 115, 111, 117, 114, 99, 101] else r0
  let r2 := if 0 ≤ m.life then setZ r1 m.life [108, 105, 102, 101] else r1
  (m.data.zip names).foldl (fun r p => setZ r p.1 p.2) r2
def rowsX (f : Ev → List Bt × Int) : List Ev → List (List Bt) → List (List Bt) × Int
  | [], acc => (acc, 0)
  | e :: l, acc => if (f e).2 ≠ 0 then ([], (f e).2) else rowsX f l (acc ++ [(f e).1])
def widthX (m : Mp) : Nat := ((fieldsB m ++ m.data).foldl (fun a k => max a (k + 1)) 0).toNat
def exportE (vt : Val → Bt) (l : List Ev) (m : Mp) : Bt × Int :=
  if logB l = false ∨ mapB m = false then ([], 1)
  else if (colsL l).length ≠ m.data.length then ([], 29)
  else
    let p := rowsX (rowX vt (colsL l) m (widthX m)) l [headX (colsL l) m (widthX m)]
    if p.2 ≠ 0 then ([], p.2) else writeE m.sep p.1
theorem setZ_len (r : List Bt) (k : Int) (s : Bt) : (setZ r k s).length = r.length := by unfold setZ; simp
theorem datR_len {vt : Val → Bt} {names : List Bs} {m : Mp} : ∀ (fs : List Fld) (r r' : List Bt), datR vt names m fs r = some r' → r'.length = r.length
  | [], r, r', h => by unfold datR at h; injection h with h; rw [h]
  | f :: fs, r, r', h => by
    unfold datR at h
    simp only at h
    split at h
    · cases h
    · rw [datR_len fs _ _ h, setZ_len]
end Go.Proofs.YtoalecalahkblaaGreatDoor

set_option linter.all false
namespace Go.Proofs.YtoalecalahkblaaGreatDoor
open Go.RowKit
def plainS (s : ByteArray) : Bool := s.data.toList.all plainC
theorem any_not_allC (l : List UInt8) : (l.any fun x => !plainC x) = !l.all plainC := by
  induction l with
  | nil => rfl
  | cons a m ih => simp [List.any_cons, List.all_cons, ih]
theorem textB_long {s : ByteArray} (h : 200 < s.size) : textB s = false := by
  unfold textB
  have h' : ¬ s.size ≤ 200 := by omega
  simp [h']
theorem textB_short {s : ByteArray} (h : s.size ≤ 200) : textB s = plainS s := by unfold textB plainS; simp [h]
theorem rowB_new (w : World) (s : ByteArray) (cap t : Nat) (fr : Nat × Nat) : RowB (w.alloc (.cells (bytesRow s cap) t fr)).drew w.heap.size s.data.toList := by
  intro k c hk
  rw [Array.getElem?_toList] at hk
  have hkl : k < s.data.size := by
    rcases Nat.lt_or_ge k s.data.size with h | h
    · exact h
    · rw [Array.getElem?_eq_none h] at hk; cases hk
  have h1 : (w.alloc (.cells (bytesRow s cap) t fr)).drew.heap[w.heap.size]? = some (.cells (bytesRow s cap) t fr) := by
    show (w.heap.push _)[w.heap.size]? = _
    simp
  simp only [World.cell?, h1]
  simp only [Option.isSome_none, Bool.false_eq_true, if_false]
  unfold bytesRow
  rw [Array.getElem?_append_left (by simpa using hkl), Array.getElem?_map, hk]
  rfl
set_option maxHeartbeats 400000 in
theorem text_any (s : ByteArray) (w : World) (hs : s.size ≤ maxLen) : Calls Tryz.prog 167 #[.string s] w fun e w' => e = .returned (.bool (textB s)) ∧ Below w.heap.size w w' := by
  unfold maxLen at hs
  by_cases h1 : 200 < s.size
  · have HE := Lib.hid (textB_long h1)
    go_enter Tryz.func167, Tryz.ntmps167
    go_wp2
    go_ret
    exact ⟨ret_bool HE.out.symm, Below.refl _ _⟩
  · have h2 : s.size ≤ 200 := by omega
    have HE : Hid (textB s = !(s.data.toList.any fun x => !plainC x)) := by show textB s = _; rw [textB_short h2, any_not_allC]; unfold plainS; simp
    have hconv := fun w => run_bytes_of_string (P := Tryz.prog) w 9 72 5 s Tryz.underlying9 Tryz.underlying72 Tryz.underlying5
    go_enter Tryz.func167, Tryz.ntmps167
    go_wp2_with fail
    refine (containsTextB w.heap.size _ s.data.toList _ (by rw [Array.length_toList]; show s.size ≤ _; omega) (rowB_new w s _ _ _)).mono ?_
    rintro e w1 ⟨rfl, rfl⟩
    generalize (s.data.toList.any fun x => !plainC x) = q at *
    go_wp2_with fail
    go_ret
    exact ⟨ret_bool HE.out.symm, (bone w _).drew⟩
theorem byte_plain {s : ByteArray} {k : Nat} (h : k < s.size) : plainC (s.data.toList[k]'(by simpa using h)) = true ↔ 32 ≤ (s[k].toNat : Int) ∧ (s[k].toNat : Int) ≤ 126 := plainC_iff _
theorem all_plain {s : ByteArray} (h : ∀ j (hj : j < s.size), plainC (s.data.toList[j]'(by simpa using hj)) = true) : plainS s = true := by
  unfold plainS
  rw [List.all_eq_true]
  intro c hc
  obtain ⟨j, hj, rfl⟩ := List.mem_iff_getElem.1 hc
  exact h j (by simpa using hj)
theorem not_plain {s : ByteArray} {j : Nat} (hj : j < s.size) (h : ¬ plainC (s.data.toList[j]'(by simpa using hj)) = true) : plainS s = false := by
  unfold plainS
  rw [Bool.eq_false_iff]
  intro h'
  exact h (List.all_eq_true.1 h' _ (List.getElem_mem _))
set_option maxHeartbeats 1000000 in
theorem validV_any (v : Val) (w : World) (h : FitV v) : Calls Tryz.prog 143 #[valV v] w fun e w' => e = .returned (.bool (validV v)) ∧ Below w.heap.size w w' := by
  obtain ⟨k, n, s⟩ := v
  obtain ⟨h1, h2, h3⟩ := h
  have HT := Lib.hid (fun w => text_any s w h3)
  have HN := Lib.hid (fun w => number_any n w)
  unfold validV valV noS
  dsimp only at h1 h2 h3 ⊢
  clear h1 h2 h3
  have hb := bone w (.cells #[.int .i64 k, .int .i64 n, .string s] 121)
  by_cases k1 : k = 1
  · subst k1
    by_cases hS : s.toList = []
    · have hS2 : s.toList.isEmpty = true := by simpa using hS
      by_cases n0 : n = 0
      · subst n0
        go_enter Tryz.func143, Tryz.ntmps143
        go_wp2_with fail
        go_ret
        exact ⟨ret_bool (by first | (simp; done) | simp [hS]), hb⟩
      · by_cases n1 : n = 1
        · subst n1
          go_enter Tryz.func143, Tryz.ntmps143
          go_wp2_with fail
          go_ret
          exact ⟨ret_bool (by first | (simp; done) | simp [hS]), hb⟩
        · go_enter Tryz.func143, Tryz.ntmps143
          go_wp2_with fail
          go_ret
          exact ⟨ret_bool (by first | (simp; done) | simp [n0, n1]), hb⟩
    · have hS2 : s.toList.isEmpty = false := by simpa using hS
      by_cases n0 : n = 0
      · subst n0
        go_enter Tryz.func143, Tryz.ntmps143
        go_wp2_with fail
        go_ret
        exact ⟨ret_bool (by first | (simp; done) | simp [hS]), hb⟩
      · by_cases n1 : n = 1
        · subst n1
          go_enter Tryz.func143, Tryz.ntmps143
          go_wp2_with fail
          go_ret
          exact ⟨ret_bool (by first | (simp; done) | simp [hS]), hb⟩
        · go_enter Tryz.func143, Tryz.ntmps143
          go_wp2_with fail
          go_ret
          exact ⟨ret_bool (by first | (simp; done) | simp [n0, n1]), hb⟩
  by_cases k2 : k = 2
  · subst k2
    generalize numB n = q at *
    by_cases hS : s.toList = []
    · have hS2 : s.toList.isEmpty = true := by simpa using hS
      cases q
      all_goals
        go_enter Tryz.func143, Tryz.ntmps143
        go_wp2_with (go_at_call 166; refine (HN.out _).mono ?_; rintro e w' ⟨rfl, rfl⟩)
        go_ret
        exact ⟨ret_bool (by first | (simp; done) | simp [hS]), hb⟩
    · have hS2 : s.toList.isEmpty = false := by simpa using hS
      cases q
      all_goals
        go_enter Tryz.func143, Tryz.ntmps143
        go_wp2_with (go_at_call 166; refine (HN.out _).mono ?_; rintro e w' ⟨rfl, rfl⟩)
        go_ret
        exact ⟨ret_bool (by first | (simp; done) | simp [hS]), hb⟩
  by_cases k3 : k = 3
  · subst k3
    by_cases n0 : n = 0
    · subst n0
      generalize textB s = q at *
      go_enter Tryz.func143, Tryz.ntmps143
      go_wp2_with (go_at_call 167; refine (HT.out _).mono ?_; rintro e w' ⟨rfl, hb1⟩)
      go_ret
      exact ⟨ret_bool (by simp), bthen hb hb1⟩
    · go_enter Tryz.func143, Tryz.ntmps143
      go_wp2_with fail
      go_ret
      exact ⟨ret_bool (by first | (simp; done) | simp [n0]), hb⟩
  · go_enter Tryz.func143, Tryz.ntmps143
    go_wp2_with fail
    go_ret
    exact ⟨ret_bool (by first | (simp; done) | simp [k1, k2, k3]), hb⟩
end Go.Proofs.YtoalecalahkblaaGreatDoor

set_option linter.all false
namespace Go.Proofs.YtoalecalahkblaaGreatDoor
open Go.RowKit
theorem var_now {P : Program} {w w' : World} {n : String} {cs : Array Value} (h : w.var? P n = some cs) (hb : Below w.heap.size w w') : w'.var? P n = some cs := by
  unfold World.var? at h ⊢
  obtain ⟨g, hg, h1⟩ := Option.bind_eq_some_iff.1 h
  rw [hg]
  show (match w'.heap[g]? with | some (.cells cs _ _) => some cs | _ => none) = some cs
  have hlt : g < w.heap.size := by
    rcases Nat.lt_or_ge g w.heap.size with h' | h'
    · exact h'
    · rw [Array.getElem?_eq_none h'] at h1; cases h1
  rw [hb.block g hlt]
  exact h1
structure AmbP (w : World) : Prop where
  tab : Lib.TabIs Tryz.prog w "internal/strconv.uint64pow10" .u64 Lib.pow10Tab
  syn : ∃ tp p, w.var? Tryz.prog "strconv.ErrSyntax" = some #[.iface tp p]
  rng : ∃ tp p, w.var? Tryz.prog "strconv.ErrRange" = some #[.iface tp p]
  mx : ∃ m, w.cell? ⟨0, 0, none⟩ = some (.int .i64 m)
theorem AmbP.now {w w' : World} (h : AmbP w) (hb : Below w.heap.size w w') : AmbP w' := by
  obtain ⟨h1, ⟨t, p, h2⟩, ⟨t', p', h3⟩, ⟨m, h4⟩⟩ := h
  exact ⟨var_now h1 hb, ⟨t, p, var_now h2 hb⟩, ⟨t', p', var_now h3 hb⟩, ⟨m, (World.cell?_of_block (hb.block _ (World.block_lt_of_cell? _ _ h4))).trans h4⟩⟩
def itoaS (n : Int) : ByteArray := ⟨(Lib.itoa n).toArray⟩
theorem bgrow (w : World) (k : Nat) (os : Array Obj) : Below w.heap.size w (Go.Sort.grow (w.drewN k) os) := by
  refine ⟨rfl, rfl, rfl, ?_, fun b hb => ?_⟩
  · show w.heap.size ≤ (w.heap ++ os).size
    rw [Array.size_append]; omega
  · show (w.heap ++ os)[b]? = w.heap[b]?
    rw [Array.getElem?_append_left hb]
theorem itoa_any (n : Int) (w : World) (hf : Fit n) (ha : AmbP w) : Calls Tryz.prog 131 #[.int .i64 n] w fun e w' => e = .returned (.string (itoaS n)) ∧ Below w.heap.size w w' :=
  (Tryz.strconv_Itoa n hf.1 hf.2 _ ha.tab).mono fun e w' ⟨he, kk, os, hw⟩ => ⟨he, by rw [hw]; exact bgrow w kk os⟩
def okOf : Lib.NumEnd Int → Option Int
  | .ok n => some n
  | _ => none
theorem below_of_bytes {w w2 : World} {e : TypeId} {t : ByteArray} (h : w2 = Lib.bytesWorld w e t) : Below w.heap.size w w2 := by rw [h]; exact Lib.bytesWorld_below _ _ _
theorem below_of_bytes' {w w2 : World} {e : TypeId} (h : w2 = w ∨ ∃ t, w2 = Lib.bytesWorld w e t) : Below w.heap.size w w2 := by
  rcases h with h | ⟨t, h⟩
  · rw [h]; exact Below.refl _ _
  · exact below_of_bytes h
def AtoiPost (s : ByteArray) (w : World) (e : Ending) (w' : World) : Prop :=
  ((∃ n, okOf (Lib.atoiAll s.data.toList) = some n ∧ Fit n ∧ e = .returned (.tuple #[.int .i64 n, .nilIface])) ∨
    (okOf (Lib.atoiAll s.data.toList) = none ∧ ∃ z N, e = .returned (.tuple #[.int .i64 z, .iface 209 (.pointer (some ⟨N, 0, none⟩))]))) ∧ Below w.heap.size w w'
theorem atoi_call (s : ByteArray) (w : World) (hs : s.size ≤ 1000000) (ha : AmbP w) : Calls Tryz.prog 142 #[.string s] w (AtoiPost s w) := by
  cases h : Lib.atoiAll s.data.toList
  · rename_i n
    refine (Tryz.strconv_Atoi_ok s (by omega) n h w).mono ?_
    rintro e w' ⟨rfl, hw⟩
    exact ⟨.inl ⟨n, by rw [h]; rfl, Lib.atoiAll_bounds h, rfl⟩, below_of_bytes' hw⟩
  · obtain ⟨tp, p, hv⟩ := ha.syn
    refine (Any.strconv_Atoi_syntax_var Tryz.laysC172 s (by omega) h tp p w hv).mono ?_
    rintro e w' ⟨N, rfl, _, _, hb⟩
    exact ⟨.inr ⟨by rw [h]; rfl, _, N, rfl⟩, hb⟩
  · obtain ⟨tp, p, hv⟩ := ha.rng
    refine (Tryz.strconv_Atoi_range_var s (by omega) h tp p w hv).mono ?_
    rintro e w' ⟨N, rfl, _, _, hb⟩
    exact ⟨.inr ⟨by rw [h]; rfl, _, N, rfl⟩, hb⟩
end Go.Proofs.YtoalecalahkblaaGreatDoor

set_option linter.all false
namespace Go.Proofs.YtoalecalahkblaaGreatDoor
open Go.RowKit
def textNV (v : Val) : ByteArray := if v.kind = 1 then ⟨(Lib.formatBool (decide (v.n = 1))).toArray⟩ else itoaS v.n
theorem validNV1 {v : Val} (h : validV v = true) (h1 : v.kind = 1) : v.n = 0 ∨ v.n = 1 := by
  unfold validV at h
  simp [h1] at h
  omega
set_option maxHeartbeats 1000000 in
theorem textNV_any (v : Val) (w : World) (hf : FitV v) (hv : validV v = true) (hk : v.kind = 1 ∨ v.kind = 2) (ha : AmbP w) :
    Calls Tryz.prog 132 #[valV v] w fun e w' => e = .returned (.tuple #[.string (textNV v), .int .i64 0]) ∧ Below w.heap.size w w' := by
  have hb := bone w (.cells #[.int .i64 v.kind, .int .i64 v.n, .string v.s] 121)
  have hB := Blk.new w 121 #[.int .i64 v.kind, .int .i64 v.n, .string v.s]
  have ha1 := ha.now hb
  have HV := Lib.hid hv
  have HK := Lib.hid hk
  clear hv hk
  unfold valV
  go_enter Tryz.func132, Tryz.ntmps132
  go_wp2_with fail
  refine (validV_any v _ hf).mono ?_
  rintro e w2 ⟨rfl, hb2⟩
  have hB2 := hB.now hb2
  have hbw2 := bthen hb hb2
  have ha2 := ha1.now hb2
  obtain ⟨y0, y1, y2⟩ := hB2.c3
  rw [HV.out]
  obtain ⟨k, n, s⟩ := v
  obtain ⟨g1, g2, g3⟩ := hf
  dsimp only at *
  have HG := Lib.hid g2
  clear g1 g2 g3 hB hB2 hb hb2 ha ha1
  by_cases k1 : k = 1
  · subst k1
    rcases validNV1 HV.out rfl with hn | hn
    · dsimp only at hn
      subst hn
      have HT : Hid (textNV ⟨1, 0, s⟩ = ⟨(Lib.formatBool false).toArray⟩) := rfl
      go_wp2_with fail
      refine (Tryz.strconv_FormatBool _ _).mono ?_
      rintro e w3 ⟨rfl, rfl⟩
      go_wp2_with fail
      go_ret2
      exact ⟨by rw [HT.out]; rfl, hbw2⟩
    · dsimp only at hn
      subst hn
      have HT : Hid (textNV ⟨1, 1, s⟩ = ⟨(Lib.formatBool true).toArray⟩) := rfl
      go_wp2_with fail
      refine (Tryz.strconv_FormatBool _ _).mono ?_
      rintro e w3 ⟨rfl, rfl⟩
      go_wp2_with fail
      go_ret2
      exact ⟨by rw [HT.out]; rfl, hbw2⟩
  · have k2 : k = 2 := HK.out.resolve_left k1
    subst k2
    have HT : Hid (textNV ⟨2, n, s⟩ = itoaS n) := rfl
    clear k1
    go_wp2_with fail
    refine (itoa_any n _ HG.out ha2).mono ?_
    rintro e w3 ⟨rfl, hb3⟩
    go_wp2_with fail
    go_ret2
    exact ⟨by rw [HT.out]; rfl, bthen hbw2 hb3⟩
end Go.Proofs.YtoalecalahkblaaGreatDoor
