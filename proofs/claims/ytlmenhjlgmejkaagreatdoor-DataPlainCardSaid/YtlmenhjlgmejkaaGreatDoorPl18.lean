/- Merged texts. -/
import Derived.Maps.Keyed
import Derived.Test.YtlmenhjlgmejkaaGreatDoorPl17
set_option linter.all false
namespace Go.Proofs.YtlmenhjlgmejkaaGreatDoor
open Go.RowKit
theorem keyM_snoc {m : List Int} {j : Nat} {z : Int} (h : m[j]? = some z) : keyM (m.take (j + 1)) = keyM (m.take j) ++ (itoaS z ++ ⟨#[32]⟩).data.toList := by
  have hj : j < m.length := by
    rcases Nat.lt_or_ge j m.length with h' | h'
    · exact h'
    · rw [List.getElem?_eq_none h'] at h; cases h
  rw [List.getElem?_eq_getElem hj] at h
  injection h with h
  rw [List.take_succ_eq_append_getElem hj, h]
  unfold keyM
  rw [List.flatMap_append]
  simp [itoaS]
theorem keyV_snoc {vs : List Val} {j : Nat} {z : Val} (h : vs[j]? = some z) : keyV (vs.take (j + 1)) = keyV (vs.take j) ++ ((textE z).1 ++ ⟨#[32]⟩).data.toList := by
  have hj : j < vs.length := by
    rcases Nat.lt_or_ge j vs.length with h' | h'
    · exact h'
    · rw [List.getElem?_eq_none h'] at h; cases h
  rw [List.getElem?_eq_getElem hj] at h
  injection h with h
  rw [List.take_succ_eq_append_getElem hj, h]
  unfold keyV
  rw [List.flatMap_append]
  simp
theorem itoaS_size {z : Int} (h : -1000000000000000000 < z ∧ z < 1000000000000000000) : (itoaS z).size ≤ 19 := itoa_length h.1 h.2
theorem textE_size {v : Val} : (textE v).1.size ≤ 1000 := by
  unfold textE
  split
  · rename_i h
    cases kinds_of h with
    | no => show 5 ≤ _; omega
    | yes => show 4 ≤ _; omega
    | num n =>
      have h1 : numB n = true := (valid2 h rfl).1
      unfold numB at h1
      rw [decide_eq_true_eq] at h1
      have := itoaS_size (z := n) (by omega)
      show (itoaS n).size ≤ _
      omega
    | txt s =>
      have h1 := (text_size (valid3 h (show (3 : Int) ≠ 1 by decide) (show (3 : Int) ≠ 2 by decide)).2.2).1
      dsimp only at h1
      have := quote_size s
      show (quoteS s).size ≤ _
      omega
  · show 0 ≤ _; omega
theorem keyM_len {m : List Int} (h : ∀ z ∈ m, -1000 ≤ z ∧ z ≤ 1000) : (keyM m).length ≤ 20 * m.length := by
  induction m with
  | nil => simp [keyM]
  | cons z m ih =>
    have h1 := itoaS_size (z := z) (by have := h z (by simp); omega)
    have h2 := ih (fun y hy => h y (by simp [hy]))
    have h3 : (Lib.itoa z).length = (itoaS z).size := rfl
    have : keyM (z :: m) = (Lib.itoa z ++ [32]) ++ keyM m := by unfold keyM; rw [List.flatMap_cons]
    rw [this, List.length_append, List.length_append, List.length_cons, List.length_cons, List.length_nil]
    omega
theorem keyV_len (vs : List Val) : (keyV vs).length ≤ 1001 * vs.length := by
  induction vs with
  | nil => simp [keyV]
  | cons z m ih =>
    have h1 := textE_size (v := z)
    have h3 : (textE z).1.data.toList.length = (textE z).1.size := size_list _
    have : keyV (z :: m) = ((textE z).1.data.toList ++ [32]) ++ keyV m := by unfold keyV; rw [List.flatMap_cons]
    rw [this, List.length_append, List.length_append, List.length_cons, List.length_cons, List.length_nil]
    omega
theorem itoa_any (n : Int) (w : World) (hf : Fit n) (ha : Amb w) : Calls Tryz.prog 114 #[.int .i64 n] w fun e w' => e = .returned (.string (itoaS n)) ∧ Below w.heap.size w w' :=
  (Tryz.strconv_Itoa n hf.1 hf.2 _ ha.tab).mono fun e w' ⟨he, kk, os, hw⟩ => ⟨he, by rw [hw]; exact bgrow w kk os⟩
def KeyPost (s : St) (w : World) (e : Ending) (w' : World) : Prop := e = .returned (.string ⟨(keyS s).toArray⟩) ∧ Below w.heap.size w w'
theorem size_blank (a : ByteArray) : (a ++ ⟨#[32]⟩).size = a.size + 1 := by
  rw [ByteArray.size_append]; rfl
set_option maxHeartbeats 4000000 in
set_option maxRecDepth 100000 in
theorem stKey_any (s : St) (us : Value) (w : World) (hs : IsSt (Lt w.heap.size) w us s) (ha : Amb w) (hml : s.marks.length ≤ 1000) (hvl : s.vals.length ≤ 1000) (hms : ∀ z ∈ s.marks, -1000 ≤ z ∧ z ≤ 1000) :
    Calls Tryz.prog 69 #[us] w (KeyPost s w) := by
  obtain ⟨Am, cm, Av, cv, rfl, s1, s2, ⟨t3, t4⟩, t5, t6⟩ := hs.open_
  clear hs
  have hb0 := bone w (.cells #[.slice Am s.marks.length cm, .slice Av s.vals.length cv] 33)
  have hb := bbox hb0 (.cells #[.pointer none, .slice none 0 0] 166)
  have hC := (Blk.new w 33 #[.slice Am s.marks.length cm, .slice Av s.vals.length cv]).alloc (.cells #[.pointer none, .slice none 0 0] 166)
  have hN := Blk.new_at (t := 166) (cs := #[.pointer none, .slice none 0 0]) (w := w.alloc (.cells #[.slice Am s.marks.length cm, .slice Av s.vals.length cv] 33)) (s := w.heap.size + 1) (by simp)
  have hS0 := Bld.new hN (Nat.le_refl _)
  have HMS := Lib.hid hms
  have HML := Lib.hid (keyM_len hms)
  have HVL := Lib.hid (keyV_len s.vals)
  have hcl := hN.lt
  clear hb0 hms hN
  go_enter Tryz.func69, Tryz.ntmps69
  go_upto_region 2 with fail
  generalize hw1e : (w.alloc (.cells #[.slice Am s.marks.length cm, .slice Av s.vals.length cv] 33)).alloc (.cells #[.pointer none, .slice none 0 0] 166) = w1 at *
  clear hw1e
  obtain ⟨y0, y1⟩ := hC.c2
  go_wp2_with fail
  clear y0 y1
  go_loopw [13] (fun i wr => ∃ j : Nat, j ≤ s.marks.length ∧ i = .int .i64 j ∧ Bld wr (w.heap.size + 1) (w.heap.size + 1) (keyM (s.marks.take j)) ∧ Below w.heap.size w wr ∧ Below (w.heap.size + 1) w1 wr) (fun i _ => s.marks.length - (intOf i).toNat)
  case atStart => exact ⟨0, Nat.zero_le _, rfl, hS0, hb, Below.refl _ _⟩
  case round =>
    obtain ⟨j, hj, rfl, hB, hbr, hb1r⟩ := hrel
    have hszr := hb1r.size
    by_cases hlt : j < s.marks.length
    · obtain ⟨b, o, z, rfl, hD, hx, hf, c0⟩ := (s1.now hbr).at_ hlt
      have HN := Lib.hid (keyM_snoc hx)
      have hz := HMS.out z (List.mem_of_getElem? hx)
      have hle : (keyM (s.marks.take j)).length ≤ 20 * s.marks.length := by
        have h1 := keyM_len (m := s.marks.take j) (fun y hy => HMS.out y (List.mem_of_mem_take hy))
        rw [List.length_take] at h1
        omega
      have hsz := itoaS_size (z := z) (by omega)
      have hsb := size_blank (itoaS z)
      have HI := Lib.hid (itoa_any z wr hf (ha.now hbr))
      clear hx
      generalize hS : itoaS z = S at *
      generalize hL : keyM (s.marks.take j) = L at *
      have HS := Lib.hid hS
      have HSB := Lib.hid hsb
      clear hS hL hsb
      go_wp2_with fail
      refine HI.out.mono ?_
      rintro e w2 ⟨rfl, hb2⟩
      have hB2 := hB.now hb2
      have hs2 := hb2.size
      clear HI hB c0
      go_wp2_with fail
      have e1 : L.length + (S ++ ⟨#[32]⟩ : ByteArray).size ≤ 140737488355328 := by have := HSB.out; omega
      have e2 : w.heap.size + 1 ≤ w2.heap.size := by omega
      have HW := writeString_any (w.heap.size + 1) (w.heap.size + 1) L (S ++ ⟨#[32]⟩) w2 hB2 e1 e2
      refine HW.mono ?_
      clear HW e1
      rintro e w3 ⟨rfl, hB3, hb3, _⟩
      go_wp2_with fail
      go_roundw
      case rel => exact ⟨j + 1, by omega, by go_num, by rw [HN.out]; exact hB3, (bthen hbr hb2).trans (hb3.mono (by omega)), (hb1r.trans (hb2.mono (by omega))).trans hb3⟩
      case measure => simp [intOf]; omega
    · obtain rfl : j = s.marks.length := by omega
      rw [List.take_of_length_le (Nat.le_refl _)] at hB
      have hCr : Blk wr w.heap.size 33 #[.slice Am s.marks.length cm, .slice Av s.vals.length cv] := hC.below hb1r (by omega)
      obtain ⟨y0, y1⟩ := hCr.c2
      go_wp2_with fail
      clear y0 y1
      obtain ⟨wo, hwo⟩ : ∃ z, z = wr := ⟨_, rfl⟩
      subst hwo
      go_loopw [25] (fun i wr => ∃ j : Nat, j ≤ s.vals.length ∧ i = .int .i64 j ∧ Bld wr (w.heap.size + 1) (w.heap.size + 1) (keyM s.marks ++ keyV (s.vals.take j)) ∧ Below w.heap.size w wr ∧ w.heap.size + 1 ≤ wr.heap.size) (fun i _ => s.vals.length - (intOf i).toNat)
      case atStart => exact ⟨0, Nat.zero_le _, rfl, by simpa [keyV] using hB, hbr, by omega⟩
      case round =>
        obtain ⟨j, hj, rfl, hB, hbr, hszq⟩ := hrel
        by_cases hlt : j < s.vals.length
        · obtain ⟨b, o, z, rfl, hD, hx, hf, c0, c1, c2⟩ := (s2.now hbr).at_ hlt
          have HN := Lib.hid (keyV_snoc hx)
          have hle : (keyM s.marks ++ keyV (s.vals.take j)).length ≤ 20 * s.marks.length + 1001 * s.vals.length := by
            have h1 := keyV_len (s.vals.take j)
            rw [List.length_take] at h1
            have h2 := HML.out
            rw [List.length_append]
            omega
          have hsz := textE_size (v := z)
          have hsb := size_blank (textE z).1
          have hb2 := bone wr (.cells #[.int .i64 z.kind, .int .i64 z.n, .string z.s] 63)
          have hV := Blk.new wr 63 #[.int .i64 z.kind, .int .i64 z.n, .string z.s]
          have HI := Lib.hid (textE_any z (wr.alloc (.cells #[.int .i64 z.kind, .int .i64 z.n, .string z.s] 63)) hf ((ha.now hbr).now hb2))
          unfold valV at HI
          clear hx
          have HL : Hid (keyM s.marks ++ keyV (s.vals.take (j + 1)) = (keyM s.marks ++ keyV (s.vals.take j)) ++ ((textE z).1 ++ ⟨#[32]⟩).data.toList) := by show _ = _; rw [HN.out, List.append_assoc]
          have hB2 := hB.now hb2
          have hbw2 := bthen hbr hb2
          have hsz2 := hb2.size
          clear hB
          go_upto_region 10 with fail
          generalize wr.alloc (.cells #[.int .i64 z.kind, .int .i64 z.n, .string z.s] 63) = w2 at *
          obtain ⟨z0, z1, z2⟩ := hV.c3
          generalize textE z = tz at *
          obtain ⟨S, sc⟩ := tz
          dsimp only at *
          generalize hLL : keyM s.marks ++ keyV (s.vals.take j) = L at *
          have HSB := Lib.hid hsb
          clear hLL hsb HN c0 c1 c2
          go_wp2_with fail
          refine HI.out.mono ?_
          rintro e w3 ⟨rfl, hb3⟩
          have hB3 := hB2.now hb3
          have hsz3 := hb3.size
          clear HI hB2 z0 z1 z2
          go_wp2_with fail
          have e1 : L.length + (S ++ ⟨#[32]⟩ : ByteArray).size ≤ 140737488355328 := by have := HSB.out; omega
          have e2 : w.heap.size + 1 ≤ w3.heap.size := by omega
          have HW := writeString_any (w.heap.size + 1) (w.heap.size + 1) L (S ++ ⟨#[32]⟩) w3 hB3 e1 e2
          refine HW.mono ?_
          clear HW e1
          rintro e w4 ⟨rfl, hB4, hb4, _⟩
          have hsz4 := hb4.size
          go_wp2_with fail
          go_roundw
          case rel => exact ⟨j + 1, by omega, by go_num, by rw [HL.out]; exact hB4, (bthen hbw2 hb3).trans (hb4.mono (by omega)), by omega⟩
          case measure => simp [intOf]; omega
        · obtain rfl : j = s.vals.length := by omega
          rw [List.take_of_length_le (Nat.le_refl _)] at hB
          have HK : Hid (keyM s.marks ++ keyV s.vals = keyS s) := rfl
          generalize keyM s.marks ++ keyV s.vals = L at *
          go_wp2_with fail
          refine (string_any (w.heap.size + 1) (w.heap.size + 1) L _ hB hszq).mono ?_
          rintro e w3 ⟨rfl, hB3, hb3, _⟩
          go_wp2_with fail
          go_ret
          refine ⟨?_, hbr.trans (hb3.mono (by omega))⟩
          rw [← HK.out]; rfl
end Go.Proofs.YtlmenhjlgmejkaaGreatDoor
namespace Go.Proofs.YtlmenhjlgmejkaaGreatDoor
open Go.RowKit Go.Maps Go.WideMaps
def posB (l : List (List UInt8)) (s : List UInt8) : Option Nat := l.findIdx? (fun x => decide (x = s))
theorem posB_snoc_same {l : List (List UInt8)} {s : List UInt8} (h : posB l s = none) : posB (l ++ [s]) s = some l.length := by
  unfold posB at h ⊢
  rw [List.findIdx?_append, h]
  simp
theorem posB_snoc_other {l : List (List UInt8)} {s t : List UInt8} (h : t ≠ s) : posB (l ++ [s]) t = posB l t := by
  unfold posB
  rw [List.findIdx?_append]
  have : List.findIdx? (fun x => decide (x = t)) [s] = none := by simp; exact fun e => h e.symm
  rw [this]
  cases List.findIdx? (fun x => decide (x = t)) l <;> rfl
theorem wf_nat {k : Nat} (hk : k < 10000000) : (Lit.int .i64 (k : Int)).wf = true := by
  unfold Lit.wf
  rw [Bool.and_eq_true, decide_eq_true_eq, decide_eq_true_eq]
  have h1 : IntKind.i64.min = -9223372036854775808 := by decide
  have h2 : IntKind.i64.max = 9223372036854775807 := by decide
  omega
section
variable {P : Program} {t k e : TypeId}
def PosP (P : Program) (k e : TypeId) (w : World) (b n : Nat) (l : List (List UInt8)) : Prop :=
  ∃ D : DataW Unit, w.ownsMap P k (plainElem P e) b n D ∧ IsMap D ∧ (∀ s : List UInt8, has D (.string s) = (posB l s).isSome) ∧ ∀ (s : List UInt8) (i : Nat), posB l s = some i → D.atKey (.string s) (.lit (.int .i64 0)) = .lit (.int .i64 i)
theorem PosP.made (w : World) : PosP P k e (w.alloc (.map #[] 0)) w.heap.size 0 [] :=
  ⟨.map [], World.ownsMap_made w _ _ _, isMap_empty, fun s => rfl, fun s i h => by cases h⟩
theorem PosP.now {w w' : World} {b n : Nat} {l : List (List UInt8)} (h : PosP P k e w b n l) (hb : Below w.heap.size w w') : PosP P k e w' b n l := by
  obtain ⟨D, h1, h2, h3⟩ := h
  exact ⟨D, h1.kept (grown_of_below hb none) (by simp), h2, h3⟩
theorem PosP.grown {w w' : World} {b n : Nat} {l : List (List UInt8)} {row : Option Nat} (h : PosP P k e w b n l) (hb : w.grownBy w' row) (hne : some b ≠ row) : PosP P k e w' b n l := by
  obtain ⟨D, h1, h2, h3⟩ := h
  exact ⟨D, h1.kept hb hne, h2, h3⟩
theorem PosP.lt {w : World} {b n : Nat} {l : List (List UInt8)} (h : PosP P k e w b n l) : b < w.heap.size := by
  obtain ⟨D, h1, _⟩ := h
  exact h1.lt
theorem PosP.look {w : World} {b n : Nat} {l : List (List UInt8)} (h : PosP P k e w b n l) (ht : P.underlying t = some (.map k e)) (hk : P.underlying k = some .string) (he : P.underlying e = some (.int .i64)) (hz : (zeroValue e).run P w = .ok (.int .i64 0) w) {s : ByteArray} (hs : s.size ≤ maxLen) :
    ∃ c : Int, (Instr.lookup t (.map (some b)) (.string s) true).run P w = .ok (.tuple #[.int .i64 c, .bool (posB l s.data.toList).isSome]) w ∧ ∀ i, posB l s.data.toList = some i → c = i := by
  obtain ⟨D, h1, h2, h3, h4⟩ := h
  obtain ⟨v, ps, hrun, hv⟩ := h1.look_ok (string_keyed hk) ht hz (plainElem_int he (by decide)) (keyOf_string_mk hk hs)
  obtain ⟨c, rfl, hc, _⟩ := plainElem_int_inv he hv
  rw [h3] at hrun
  refine ⟨c, hrun, fun i hi => ?_⟩
  have h5 := h4 _ i hi
  rw [h5] at hc
  simp only [Prod.mk.injEq, DataW.lit.injEq, Lit.int.injEq] at hc
  exact hc.1.2.symm
theorem PosP.put {w : World} {b n : Nat} {l : List (List UInt8)} (h : PosP P k e w b n l) (ht : P.underlying t = some (.map k e)) (hk : P.underlying k = some .string) (he : P.underlying e = some (.int .i64)) {s : ByteArray} (hs : s.size ≤ maxLen) (hn : n < maxLen) (hl : l.length < 10000000) (hp : posB l s.data.toList = none) :
    ∃ w', (Instr.mapUpdate t (.map (some b)) (.string s) (.int .i64 l.length)).run P w = .ok () w' ∧ PosP P k e w' b (n + 1) (l ++ [s.data.toList]) ∧ w.grownBy w' (some b) := by
  obtain ⟨D, h1, h2, h3, h4⟩ := h
  obtain ⟨w', r0, r1, r2⟩ := h1.update (string_keyed hk) ht hn (keyOf_string_mk hk hs) (plainElem_int he (wf_nat hl))
  refine ⟨w', r0, ⟨_, r1, h2.put _ _, fun t => ?_, fun t i hi => ?_⟩, r2⟩
  · by_cases e : t = s.data.toList
    · subst e
      rw [has_put_same h2 (by simp [WideAt.IsKeyLit]), posB_snoc_same hp]; rfl
    · rw [has_put_other (by simpa using e), h3, posB_snoc_other e]
  · by_cases e : t = s.data.toList
    · subst e
      rw [posB_snoc_same hp] at hi
      injection hi with hi
      subst hi
      rw [atKey_put_same h2 (by simp [WideAt.IsKeyLit])]
    · rw [posB_snoc_other e] at hi
      rw [atKey_put_other (by simpa using e)]
      exact h4 t i hi
def mvV (m : Mv) : Value := .agg #[.int .i64 (m.src : Int), .int .i64 (m.dst : Int), .int .i64 (m.sym : Int)]
def mvList (l : List Value) : Option (DataW Unit × List MemPlace) := match l with
  | [.int .i64 a, .int .i64 b, .int .i64 c] => some (.agg [.lit (.int .i64 a), .lit (.int .i64 b), .lit (.int .i64 c)], [])
  | _ => none
def mvElem (v : Value) : Option (DataW Unit × List MemPlace) := match v with
  | .agg cs => mvList cs.toList
  | _ => none
theorem mvElem_inv {v : Value} {a b c : Int} {ps : List MemPlace} (h : mvElem v = some (.agg [.lit (.int .i64 a), .lit (.int .i64 b), .lit (.int .i64 c)], ps)) : v = .agg #[.int .i64 a, .int .i64 b, .int .i64 c] := by
  unfold mvElem at h
  split at h
  · rename_i cs
    unfold mvList at h
    split at h
    · rename_i a' b' c' e
      simp only [Option.some.injEq, Prod.mk.injEq, DataW.agg.injEq, List.cons.injEq, DataW.lit.injEq, Lit.int.injEq, true_and, and_true] at h
      obtain ⟨⟨rfl, rfl, rfl⟩, _⟩ := h
      congr 1
      exact Array.toList_inj.1 e
    · cases h
  · cases h
def mvD (m : Option Mv) : DataW Unit := match m with
  | some m => .agg [.lit (.int .i64 (m.src : Int)), .lit (.int .i64 (m.dst : Int)), .lit (.int .i64 (m.sym : Int))]
  | none => .agg [.lit (.int .i64 0), .lit (.int .i64 0), .lit (.int .i64 0)]
def ByP (P : Program) (k : TypeId) (w : World) (b n : Nat) (f : Nat → Option Mv) : Prop :=
  ∃ D : DataW Unit, w.ownsMap P k mvElem b n D ∧ IsMap D ∧ (∀ i : Nat, has D (.int .i64 (i : Int)) = (f i).isSome) ∧ ∀ (i : Nat), D.atKey (.int .i64 (i : Int)) (mvD none) = mvD (f i)
theorem ByP.made (w : World) : ByP P k (w.alloc (.map #[] 0)) w.heap.size 0 fun _ => none :=
  ⟨.map [], World.ownsMap_made w _ _ _, isMap_empty, fun s => rfl, fun s => rfl⟩
theorem ByP.now {w w' : World} {b n : Nat} {f : Nat → Option Mv} (h : ByP P k w b n f) (hb : Below w.heap.size w w') : ByP P k w' b n f := by
  obtain ⟨D, h1, h2, h3⟩ := h
  exact ⟨D, h1.kept (grown_of_below hb none) (by simp), h2, h3⟩
theorem ByP.grown {w w' : World} {b n : Nat} {f : Nat → Option Mv} {row : Option Nat} (h : ByP P k w b n f) (hb : w.grownBy w' row) (hne : some b ≠ row) : ByP P k w' b n f := by
  obtain ⟨D, h1, h2, h3⟩ := h
  exact ⟨D, h1.kept hb hne, h2, h3⟩
theorem ByP.lt {w : World} {b n : Nat} {f : Nat → Option Mv} (h : ByP P k w b n f) : b < w.heap.size := by
  obtain ⟨D, h1, _⟩ := h
  exact h1.lt
theorem ByP.val {w : World} {D : DataW Unit} {v : Value} {ps : List MemPlace} {f : Option Mv} (hv : mvElem v = some (mvD f, ps)) : v = mvV (f.getD ⟨0, 0, 0⟩) := by
  cases f with
  | none => exact mvElem_inv hv
  | some m => exact mvElem_inv hv
theorem ByP.look {w : World} {b n : Nat} {f : Nat → Option Mv} (h : ByP P k w b n f) (ht : P.underlying t = some (.map k e)) (hk : P.underlying k = some (.int .i64)) (hz : (zeroValue e).run P w = .ok (.agg #[.int .i64 0, .int .i64 0, .int .i64 0]) w) {i : Nat} (hi : i < 10000000) :
    (Instr.lookup t (.map (some b)) (.int .i64 (i : Int)) false).run P w = .ok (mvV ((f i).getD ⟨0, 0, 0⟩)) w := by
  obtain ⟨D, h1, h2, h3, h4⟩ := h
  obtain ⟨v, ps, hrun, hv⟩ := h1.lookup (int_keyed hk) ht hz (zd := mvD none) (zp := []) rfl (keyOf_int_mk hk (wf_nat hi))
  rw [h4] at hv
  rw [← ByP.val (w := w) (D := D) hv]
  exact hrun
theorem ByP.look_ok {w : World} {b n : Nat} {f : Nat → Option Mv} (h : ByP P k w b n f) (ht : P.underlying t = some (.map k e)) (hk : P.underlying k = some (.int .i64)) (hz : (zeroValue e).run P w = .ok (.agg #[.int .i64 0, .int .i64 0, .int .i64 0]) w) {i : Nat} (hi : i < 10000000) :
    (Instr.lookup t (.map (some b)) (.int .i64 (i : Int)) true).run P w = .ok (.tuple #[mvV ((f i).getD ⟨0, 0, 0⟩), .bool (f i).isSome]) w := by
  obtain ⟨D, h1, h2, h3, h4⟩ := h
  obtain ⟨v, ps, hrun, hv⟩ := h1.look_ok (int_keyed hk) ht hz (zd := mvD none) (zp := []) rfl (keyOf_int_mk hk (wf_nat hi))
  rw [h4] at hv
  rw [← ByP.val (w := w) (D := D) hv, ← h3]
  exact hrun
theorem ByP.put {w : World} {b n : Nat} {f : Nat → Option Mv} (h : ByP P k w b n f) (ht : P.underlying t = some (.map k e)) (hk : P.underlying k = some (.int .i64)) {i : Nat} (hi : i < 10000000) (hn : n < maxLen) (m : Mv) :
    ∃ w', (Instr.mapUpdate t (.map (some b)) (.int .i64 (i : Int)) (mvV m)).run P w = .ok () w' ∧ ByP P k w' b (n + 1) (fun j => if j = i then some m else f j) ∧ w.grownBy w' (some b) := by
  obtain ⟨D, h1, h2, h3, h4⟩ := h
  obtain ⟨w', r0, r1, r2⟩ := h1.update (int_keyed hk) ht hn (keyOf_int_mk hk (wf_nat hi)) (val := mvV m) (d := mvD (some m)) (ps := []) rfl
  refine ⟨w', r0, ⟨_, r1, h2.put _ _, fun j => ?_, fun j => ?_⟩, r2⟩
  · by_cases e : j = i
    · subst e
      rw [has_put_same h2 (by simp [WideAt.IsKeyLit])]; dsimp only; rw [if_pos rfl]; rfl
    · rw [has_put_other (by simpa using (by omega : ¬ (j : Int) = i)), h3]; dsimp only; rw [if_neg e]
  · by_cases e : j = i
    · subst e
      rw [atKey_put_same h2 (by simp [WideAt.IsKeyLit])]; dsimp only; rw [if_pos rfl]
    · rw [atKey_put_other (by simpa using (by omega : ¬ (j : Int) = i)), h4]; dsimp only; rw [if_neg e]
end
end Go.Proofs.YtlmenhjlgmejkaaGreatDoor
namespace Go.Proofs.YtlmenhjlgmejkaaGreatDoor
open Go.RowKit
def cellsM (m : Mv) : List Value := [.int .i64 (m.src : Int), .int .i64 (m.dst : Int), .int .i64 (m.sym : Int)]
theorem cellsM_len (m : Mv) : (cellsM m).length = 3 := rfl
theorem cellsM_one (m : Mv) : ∀ u ∈ cellsM m, u.oneCell' = true := by intro u hu; simp [cellsM] at hu; rcases hu with rfl | rfl | rfl <;> rfl
def SmallM (m : Mv) : Prop := m.src < 1000000 ∧ m.dst < 1000000 ∧ m.sym < 1000000
def RMv : ElemR Mv := fun _ _ m cs => cs = [.int .i64 (m.src : Int), .int .i64 (m.dst : Int), .int .i64 (m.sym : Int)] ∧ SmallM m
theorem RMv.kept : ElemR.Kept RMv := fun _ _ _ _ _ _ _ _ h => h
def SlM := Sl 3 RMv
def OwnM (w : World) (base : Nat) (v : Value) (ms : List Mv) : Prop := OwnW 3 cellsM w base 73 v ms
theorem appMvs : AppInfo Tryz.prog 45 73 3 := AppInfo.mk' (z := .agg #[.int .i64 0, .int .i64 0, .int .i64 0]) (bytes := 24) Tryz.underlying45 (by kernel_rfl) (by decide) rfl (by decide)
theorem appSts : AppInfo Tryz.prog 44 33 2 := AppInfo.mk' (z := .agg #[.slice none 0 0, .slice none 0 0]) (bytes := 48) Tryz.underlying44 (by kernel_rfl) (by decide) rfl (by decide)
section
variable {w w' : World} {base : Nat} {v : Value} {ms : List Mv}
theorem OwnM.now (h : OwnM w base v ms) (hb : Below w.heap.size w w') : OwnM w' base v ms := OwnW.now h hb
theorem OwnM.sl (h : OwnM w base v ms) (hf : ∀ m ∈ ms, SmallM m) : SlM (Lt w.heap.size) w v ms := OwnW.sl h cellsM_len fun _ _ m hm => ⟨rfl, hf m hm⟩
theorem OwnM.kept {row : Option Nat} (h : OwnM w base v ms) (hg : w.grownBy w' row) (hne : ∀ g, row = some g → v.ownBlock ≠ some g) : OwnM w' base v ms := by
  refine World.ownsRow.kept h hg ?_
  cases e : v.ownBlock with
  | none => exact .inl rfl
  | some g => exact .inr (fun h' => hne g h'.symm e)
theorem OwnM.lt (h : OwnM w base v ms) : ∀ g, v.ownBlock = some g → base ≤ g ∧ g < w.heap.size := World.ownsRow.lt h
theorem OwnM.form (h : OwnM w base v ms) : ∃ A c, v = .slice A ms.length c := by
  rcases h.2 with ⟨rfl, h0⟩ | ⟨g, cap, cur, rfl, _⟩
  · exact ⟨none, 0, by rw [h0]⟩
  · exact ⟨_, _, rfl⟩
end
theorem own_apart {w : World} {b1 b2 e1 e2 s1 s2 n1 n2 : Nat} {v1 v2 : Value} {c1 c2 : List Value} (h1 : w.ownsRow b1 e1 s1 v1 n1 c1) (h2 : w.ownsRow b2 e2 s2 v2 n2 c2) (he : e1 ≠ e2) {g : Nat} (hg : v1.ownBlock = some g) : v2.ownBlock ≠ some g := by
  intro hg2
  rcases h1.2 with ⟨rfl, _⟩ | ⟨g1, cap, cur, rfl, _, hh1, _⟩
  · simp [Value.ownBlock] at hg
  rcases h2.2 with ⟨rfl, _⟩ | ⟨g2, cap2, cur2, rfl, _, hh2, _⟩
  · simp [Value.ownBlock] at hg2
  simp only [Value.ownBlock, Option.some.injEq] at hg hg2
  subst hg
  subst hg2
  rw [hh1] at hh2
  simp only [Option.some.injEq, Obj.cells.injEq] at hh2
  exact he hh2.2.1
theorem own_map_apart {w : World} {b1 e1 s1 n1 g n : Nat} {v1 : Value} {c1 : List Value} {P : Program} {k e : TypeId} {l : List (List UInt8)} (h1 : w.ownsRow b1 e1 s1 v1 n1 c1) (h2 : PosP P k e w g n l) : v1.ownBlock ≠ some g := by
  intro hg
  obtain ⟨D, ⟨es, clock, hb, _⟩, _⟩ := h2
  rcases h1.2 with ⟨rfl, _⟩ | ⟨g1, cap, cur, rfl, _, hh1, _⟩
  · simp [Value.ownBlock] at hg
  simp only [Value.ownBlock, Option.some.injEq] at hg
  subst hg
  rw [hb] at hh1
  cases hh1
theorem PosP.ne {P : Program} {k e : TypeId} {w : World} {b n g t : Nat} {l : List (List UInt8)} {cs : Array Value} (h : PosP P k e w b n l) (hB : Blk w g t cs) : g ≠ b := by
  rintro rfl
  obtain ⟨D, ⟨es, clock, hb, _⟩, _⟩ := h
  unfold Blk at hB
  rw [hb] at hB
  cases hB
theorem OwnR.regrown {α : Type} {size : Nat} {R : ElemR α} {X X' : Nat → Prop} {w w' : World} {base t : Nat} {v : Value} {xs : List α} {row : Option Nat} (h : OwnR size R X w base t v xs) (hR : ElemR.Kept R) (hb : w.grownBy w' row)
    (hr : ∀ g, row = some g → X g ∧ v.ownBlock ≠ some g) (hX : ∀ b, X' b → X b ∨ w.heap.size ≤ b) : OwnR size R X' w' base t v xs := by
  obtain ⟨cs, h, he⟩ := h
  refine ⟨cs, h.kept hb ?_, fun i x hx => ?_⟩
  · cases e : v.ownBlock with
    | none => exact .inl rfl
    | some g => exact .inr (fun h' => (hr g h'.symm).2 e)
  · obtain ⟨es, h1, h2, h3⟩ := he i x hx
    refine ⟨es, h1, h2, hR _ _ _ _ _ _ (fun b hb' => ⟨Nat.lt_of_lt_of_le hb'.1 hb.size, hb'.2.1, fun hx' => ?_⟩) (fun b hb' => hb.block b hb'.1 ?_) h3⟩
    · rcases hX b hx' with h4 | h4
      · exact hb'.2.2 h4
      · have := hb'.1; omega
    · exact fun e => hb'.2.2 (hr b e.symm).1
def PosI := PosP Tryz.prog 9 3
theorem PosI.look {w : World} {b n : Nat} {l : List (List UInt8)} (h : PosI w b n l) {s : ByteArray} (hs : s.size ≤ maxLen) :
    ∃ c : Int, (Instr.lookup 128 (.map (some b)) (.string s) true).run Tryz.prog w = .ok (.tuple #[.int .i64 c, .bool (posB l s.data.toList).isSome]) w ∧ ∀ i, posB l s.data.toList = some i → c = i :=
  PosP.look h Tryz.underlying128 Tryz.underlying9 Tryz.underlying3 (by kernel_rfl) hs
theorem PosI.store {w : World} {ops : Array Oper} {rest : List Oper} {o : Oper} {a : Act} {Q : Exit → Act → World → Prop} {b n : Nat} {l : List (List UInt8)} {s : ByteArray} {z : Int}
    (h : PosI w b n l) (hs : s.size ≤ maxLen) (hn : n < maxLen) (hl : l.length < 10000000) (hp : posB l s.data.toList = none) (hz : z = l.length) (hg : o.guard = none) (m x v : Operand)
    (hop : o.op = Op.mapUpdate 128 m x v ∨ o.op = Op.insert 128 m x v)
    (hm : a.eval m = .map (some b)) (hx : a.eval x = .string s) (hv : a.eval v = .int .i64 z)
    (hK : ∀ w', PosI w' b (n + 1) (l ++ [s.data.toList]) → w.grownBy w' (some b) → wpList Tryz.prog ops Q rest (a.put o.dst undef) w') :
    wpList Tryz.prog ops Q (o :: rest) a w := by
  subst hz
  refine wpList_plain hg fun K' hK' => ?_
  obtain ⟨w', hrun, r1, r2⟩ := PosP.put h Tryz.underlying128 Tryz.underlying9 Tryz.underlying3 hs hn hl hp
  unfold Oper.wp
  rcases hop with hop | hop
  · simp [execOp, hop, hm, hx, hv, hrun, Result.andThen]
    exact hK' _ _ (hK w' r1 r2)
  · simp [execOp, hop, hm, hx, hv, hrun, Result.andThen]
    exact hK' _ _ (hK w' r1 r2)
theorem PosI.put {w : World} {b n : Nat} {l : List (List UInt8)} {s : ByteArray} {z : Int} (h : PosI w b n l) (hs : s.size ≤ maxLen) (hn : n < maxLen) (hl : l.length < 10000000) (hp : posB l s.data.toList = none) (hz : z = l.length) :
    ∃ w', (Instr.mapUpdate 128 (.map (some b)) (.string s) (.int .i64 z)).run Tryz.prog w = .ok () w' ∧ PosI w' b (n + 1) (l ++ [s.data.toList]) ∧ w.grownBy w' (some b) := by
  subst hz
  exact PosP.put h Tryz.underlying128 Tryz.underlying9 Tryz.underlying3 hs hn hl hp
def ExX (gm : Nat) (mv : Value) (b : Nat) : Prop := b = gm ∨ mv.ownBlock = some b
structure ExI (w : World) (base gm : Nat) (sv mv : Value) (p : Sp) : Prop where
  st : OwnR 2 RSt (ExX gm mv) w base 33 sv p.states
  mo : OwnM w base mv p.moves
  mp : PosI w gm p.states.length (p.states.map keyS)
  lo : base ≤ gm
section
variable {w w' : World} {base gm : Nat} {sv mv : Value} {p : Sp}
theorem ExI.now (h : ExI w base gm sv mv p) (hb : Below w.heap.size w w') : ExI w' base gm sv mv p := ⟨h.st.now RSt.kept hb, h.mo.now hb, h.mp.now hb, h.lo⟩
theorem ExI.full {f : Bool} (h : ExI w base gm sv mv p) : ExI w base gm sv mv ⟨p.states, p.moves, f⟩ := ⟨h.st, h.mo, h.mp, h.lo⟩
theorem ExI.apart (h : ExI w base gm sv mv p) {g : Nat} (hg : sv.ownBlock = some g) : mv.ownBlock ≠ some g := by
  obtain ⟨cs, h1, _⟩ := h.st
  exact own_apart h1 h.mo (by decide) hg
theorem ExI.apart' (h : ExI w base gm sv mv p) {g : Nat} (hg : mv.ownBlock = some g) : sv.ownBlock ≠ some g := fun e => h.apart e hg
theorem ExI.smap (h : ExI w base gm sv mv p) : sv.ownBlock ≠ some gm := by
  obtain ⟨cs, h1, _⟩ := h.st
  exact own_map_apart h1 h.mp
theorem ExI.mmap (h : ExI w base gm sv mv p) : mv.ownBlock ≠ some gm := own_map_apart h.mo h.mp
theorem ExI.off (h : ExI w base gm sv mv p) {s : St} {m v : Value} (hm : SlI (Fr w.heap.size w') w' m s.marks) (hv : SlV (Fr w.heap.size w') w' v s.vals) : RSt (Off (ExX gm mv) w' sv) w' s [m, v] := by
  have hd : ∀ b, Fr w.heap.size w' b → Off (ExX gm mv) w' sv b := fun b hb' => by
    refine ⟨hb'.2, fun e => ?_, fun e => ?_⟩
    · have := (h.st.lt b e).2
      have := hb'.1
      omega
    · have h1 := hb'.1
      rcases e with e | e
      · have := h.mp.lt; omega
      · have := (h.mo.lt b e).2; omega
  exact ⟨m, v, rfl, Sl.keep hm RInt.kept hd (Same.refl _ _), Sl.keep hv RVal.kept hd (Same.refl _ _)⟩
end
theorem findIdx_congr {α : Type} {p q : α → Bool} : ∀ (l : List α), (∀ x ∈ l, p x = q x) → l.findIdx? p = l.findIdx? q
  | [], _ => rfl
  | a :: l, h => by rw [List.findIdx?_cons, List.findIdx?_cons, h a (by simp), findIdx_congr l (fun x hx => h x (by simp [hx]))]
theorem own_single {X : Nat → Prop} {w : World} {base B : Nat} {s : St} {m v : Value} (hm : SlI (Fr B w) w m s.marks) (hv : SlV (Fr B w) w v s.vals) (hb : base ≤ w.heap.size) (hX : ∀ b, X b → w.heap.size ≤ b) :
    OwnR 2 RSt X (w.alloc (.cells #[m, v] 33)) base 33 (.slice (some ⟨w.heap.size, 0, none⟩) 1 1) [s] := by
  have h1 := World.ownsRow_lit (base := base) (e := 33) (size := 2) w #[m, v] 1 hb (by unfold maxLen; omega) rfl
  refine ⟨[m, v], h1, fun i x hx => ?_⟩
  cases i with
  | succ i => simp at hx
  | zero =>
    injection hx with hx
    subst hx
    have hd : ∀ b, Fr B w b → Off X (w.alloc (.cells #[m, v] 33)) (.slice (some ⟨w.heap.size, 0, none⟩) 1 1) b := fun b hb' => by
      refine ⟨by have := hb'.2; simp; omega, fun e => ?_, fun e => ?_⟩
      · simp only [Value.ownBlock, Option.some.injEq] at e
        have := hb'.2; omega
      · have := hX b e; have := hb'.2; omega
    have hs : Same (Fr B w) w (w.alloc (.cells #[m, v] 33)) := fun b hb' => Below.heap_alloc w _ b hb'.2
    refine ⟨[m, v], rfl, fun j u hu => ?_, m, v, rfl, Sl.keep hm RInt.kept hd hs, Sl.keep hv RVal.kept hd hs⟩
    simpa using hu
theorem SlI.grownF {B : Nat} {w w' : World} {row : Option Nat} {v : Value} {zs : List Int} (h : SlI (Fr B w) w v zs) (hb : w.grownBy w' row) (hr : ∀ g, row = some g → g < B) : SlI (Fr B w') w' v zs :=
  Sl.keep h RInt.kept (fun _ hx => ⟨hx.1, Nat.lt_of_lt_of_le hx.2 hb.size⟩) (fun b hx => hb.block b hx.2 (fun e => by have := hr b e.symm; have := hx.1; omega))
theorem SlV.grownF {B : Nat} {w w' : World} {row : Option Nat} {v : Value} {zs : List Val} (h : SlV (Fr B w) w v zs) (hb : w.grownBy w' row) (hr : ∀ g, row = some g → g < B) : SlV (Fr B w') w' v zs :=
  Sl.keep h RVal.kept (fun _ hx => ⟨hx.1, Nat.lt_of_lt_of_le hx.2 hb.size⟩) (fun b hx => hb.block b hx.2 (fun e => by have := hr b e.symm; have := hx.1; omega))
theorem ExI.pushM {w w' : World} {base gm : Nat} {sv mv mv' : Value} {p : Sp} {m : Mv} (h : ExI w base gm sv mv p) (hmo : OwnM w' base mv' (p.moves ++ [m])) (hg : w.grownBy w' mv.ownBlock) (hat : mv'.ownBlock = mv.ownBlock ∨ mv'.ownBlock = some (w.heap.size + 1)) (hbase : base ≤ w.heap.size) :
    ExI w' base gm sv mv' ⟨p.states, p.moves ++ [m], p.full⟩ ∧ Below base w w' := by
  refine ⟨⟨?_, hmo, PosP.grown h.mp hg (fun e => h.mmap e.symm), h.lo⟩, below_of_grown hg hbase (fun g hg => (h.mo.lt g hg).1)⟩
  refine h.st.regrown RSt.kept hg (fun g hg => ⟨.inr hg, h.apart' hg⟩) (fun b hb => ?_)
  rcases hb with hb | hb
  · exact .inl (.inl hb)
  · rcases hat with e | e
    · exact .inl (.inr (by rw [← e]; exact hb))
    · rw [e] at hb
      injection hb with hb
      exact .inr (by omega)
theorem ExI.putS {w w' : World} {base gm : Nat} {sv mv : Value} {p : Sp} (h : ExI w base gm sv mv p) (hg : w.grownBy w' (some gm)) (hbase : base ≤ w.heap.size) :
    OwnR 2 RSt (ExX gm mv) w' base 33 sv p.states ∧ OwnM w' base mv p.moves ∧ Below base w w' :=
  ⟨h.st.regrown RSt.kept hg (fun g hg => by injection hg with hg; subst hg; exact ⟨.inl rfl, h.smap⟩) (fun b hb => .inl hb), h.mo.kept hg (fun g hg => by injection hg with hg; subst hg; exact h.mmap), below_of_grown hg hbase (fun g hg => by injection hg with hg; subst hg; exact h.lo)⟩
theorem ExI.pushS {w w' : World} {base gm : Nat} {sv sv' mv : Value} {p : Sp} {s : St} (h1 : OwnR 2 RSt (ExX gm mv) w base 33 sv p.states) (h2 : OwnM w base mv p.moves) (h3 : PosI w gm (p.states.length + 1) (p.states.map keyS ++ [keyS s])) (h4 : base ≤ gm)
    (hst : OwnR 2 RSt (ExX gm mv) w' base 33 sv' (p.states ++ [s])) (hg : w.grownBy w' sv.ownBlock) (hbase : base ≤ w.heap.size) :
    ExI w' base gm sv' mv ⟨p.states ++ [s], p.moves, p.full⟩ ∧ Below base w w' := by
  obtain ⟨cs, ho, _⟩ := h1
  refine ⟨⟨hst, h2.kept hg (fun g hg => own_apart ho h2 (by decide) hg), ?_, h4⟩, below_of_grown hg hbase (fun g hg => (World.ownsRow.lt ho g hg).1)⟩
  have := PosP.grown h3 hg (fun e => own_map_apart ho h3 e.symm)
  show PosP _ _ _ _ _ _ _
  rw [List.length_append, List.map_append]
  exact this
theorem pos_idx {n : DNet} {l : List St} {s : St} (hl : ∀ x ∈ l, stateB n x = true) (hs : stateB n s = true) : posB (l.map keyS) (keyS s) = idxS l s := by
  unfold posB idxS
  rw [List.findIdx?_map]
  refine findIdx_congr l fun x hx => ?_
  show decide (keyS x = keyS s) = decide (x = s)
  rw [decide_eq_decide]
  exact ⟨fun h => key_state (hl x hx) hs h, fun h => by rw [h]⟩
theorem keyS_size {s : St} (hml : s.marks.length ≤ 1000) (hvl : s.vals.length ≤ 1000) (hms : ∀ z ∈ s.marks, -1000 ≤ z ∧ z ≤ 1000) : (⟨(keyS s).toArray⟩ : ByteArray).size ≤ maxLen := by
  have h1 := keyM_len hms
  have h2 := keyV_len s.vals
  show (keyS s).toArray.size ≤ _
  rw [List.size_toArray]
  unfold keyS maxLen
  rw [List.length_append]
  omega
theorem state_small {n : DNet} {s : St} (h : stateB n s = true) : s.marks.length ≤ 1000 ∧ s.vals.length ≤ 1000 ∧ ∀ z ∈ s.marks, -1000 ≤ z ∧ z ≤ 1000 := by
  obtain ⟨h1, h2, h3⟩ := state_parts h
  have a := validOk h1
  obtain ⟨b, b2⟩ := markOk (n := n.net) h2
  obtain ⟨c1, c2, c3, _⟩ := asg_parts h3
  unfold varsB at c1
  simp only [Bool.and_eq_true, decide_eq_true_eq] at c1
  exact ⟨by omega, by omega, fun z hz => by have := b2 z hz; omega⟩
section
variable {n : DNet} {most i t : Nat} {s : St} {p q : Sp} {R : Option Sp} {F : Sp → Option Sp}
theorem row_some (ht : t < n.net.trans.length) (hq : exT n most i s t p = some q) (h : (exRow n most i s (n.net.trans.length - t) t p).bind F = R) : (exRow n most i s (n.net.trans.length - (t + 1)) (t + 1) q).bind F = R := by
  rw [show n.net.trans.length - t = (n.net.trans.length - (t + 1)) + 1 by omega, exRow, hq] at h
  exact h
theorem row_none (ht : t < n.net.trans.length) (hq : exT n most i s t p = none) (h : (exRow n most i s (n.net.trans.length - t) t p).bind F = R) : R = none := by
  rw [show n.net.trans.length - t = (n.net.trans.length - (t + 1)) + 1 by omega, exRow, hq] at h
  exact h.symm
theorem row_end (h : (exRow n most i s (n.net.trans.length - n.net.trans.length) n.net.trans.length p).bind F = R) : F p = R := by
  rw [Nat.sub_self, exRow] at h
  exact h
theorem all_some (hi : i < most + 1) (hs : p.states[i]? = some s) (h : exAll n most (most + 1 - i) i p = R) : (exRow n most i s (n.net.trans.length - 0) 0 p).bind (fun q => exAll n most (most + 1 - (i + 1)) (i + 1) q) = R := by
  rw [show most + 1 - i = (most + 1 - (i + 1)) + 1 by omega, exAll, hs] at h
  exact h
theorem all_end (hs : p.states[i]? = none) (h : exAll n most (most + 1 - i) i p = R) : R = some p := by
  cases hf : most + 1 - i with
  | zero => rw [hf, exAll] at h; exact h.symm
  | succ f => rw [hf, exAll, hs] at h; exact h.symm
theorem exT_err (h : (fireD n s (t : Int)).2 ≠ 0) : exT n most i s t p = some ⟨p.states, p.moves, p.full && decide ((fireD n s (t : Int)).2 ≠ 5)⟩ := by unfold exT; rw [if_pos h]
theorem exT_met {k : Nat} (h : (fireD n s (t : Int)).2 = 0) (hk : idxS p.states (fireD n s (t : Int)).1 = some k) (hl : p.moves.length < 20000) : exT n most i s t p = some ⟨p.states, p.moves ++ [⟨i, k, t⟩], p.full⟩ := by
  unfold exT
  rw [if_neg (by rw [h]; simp), hk]
  exact if_pos hl
theorem exT_met_full {k : Nat} (h : (fireD n s (t : Int)).2 = 0) (hk : idxS p.states (fireD n s (t : Int)).1 = some k) (hl : ¬ p.moves.length < 20000) : exT n most i s t p = none := by
  unfold exT
  rw [if_neg (by rw [h]; simp), hk]
  exact if_neg hl
theorem exT_cut (h : (fireD n s (t : Int)).2 = 0) (hk : idxS p.states (fireD n s (t : Int)).1 = none) (hl : ¬ p.states.length < most) : exT n most i s t p = some ⟨p.states, p.moves, false⟩ := by
  unfold exT
  rw [if_neg (by rw [h]; simp), hk]
  exact if_neg hl
theorem exT_new (h : (fireD n s (t : Int)).2 = 0) (hk : idxS p.states (fireD n s (t : Int)).1 = none) (hm : p.states.length < most) (hl : p.moves.length < 20000) : exT n most i s t p = some ⟨p.states ++ [(fireD n s (t : Int)).1], p.moves ++ [⟨i, p.states.length, t⟩], p.full⟩ := by
  unfold exT
  rw [if_neg (by rw [h]; simp), hk]
  exact (if_pos hm).trans (if_pos hl)
theorem exT_new_full (h : (fireD n s (t : Int)).2 = 0) (hk : idxS p.states (fireD n s (t : Int)).1 = none) (hm : p.states.length < most) (hl : ¬ p.moves.length < 20000) : exT n most i s t p = none := by
  unfold exT
  rw [if_neg (by rw [h]; simp), hk]
  exact (if_pos hm).trans (if_neg hl)
end
theorem results_tmp4 {fn : Func} {t u v x : Tmp} (h : fn.results = #[.tmp t, .tmp u, .tmp v, .tmp x]) (tmps : Array Value) (P : Program) (w : World) :
    (results fn tmps).run P w = .ok (.tuple #[tmps.getD t undef, tmps.getD u undef, tmps.getD v undef, tmps.getD x undef]) w := by
  simp [results, h]
theorem dexplE_bad {n : DNet} {s : St} {most : Int} (h : vstateB n s = false) : dexplE n s most = (noSp, 1) := if_pos h
theorem dexplE_range {n : DNet} {s : St} {most : Int} (h : vstateB n s = true) (hm : most < 1 ∨ 2000 < most) : dexplE n s most = (noSp, 2) := by
  unfold dexplE; rw [if_neg (by rw [h]; simp), if_pos hm]
theorem dexplE_none {n : DNet} {s : St} {most : Nat} (h : vstateB n s = true) (hm : 1 ≤ most ∧ most ≤ 2000) (he : exFrom n s most = none) : dexplE n s (most : Int) = (noSp, 13) := by
  unfold dexplE; rw [if_neg (by rw [h]; simp), if_neg (by omega), Int.toNat_natCast, he]
theorem dexplE_some {n : DNet} {s : St} {most : Nat} {p : Sp} (h : vstateB n s = true) (hm : 1 ≤ most ∧ most ≤ 2000) (he : exFrom n s most = some p) : dexplE n s (most : Int) = (p, 0) := by
  unfold dexplE; rw [if_neg (by rw [h]; simp), if_neg (by omega), Int.toNat_natCast, he]
theorem inv_start {n : DNet} {s : St} {most : Nat} (h : stateB n s = true) (hm : 1 ≤ most) : DInv n s most ⟨[s], [], true⟩ := by
  refine ⟨?_, rfl, hm, by simp, fun m hm => ?_, by simp, fun k h1 h2 => ?_⟩
  · intro x hx; rw [List.mem_singleton] at hx; subst hx; exact h
  · simp at hm
  · simp at h2; omega
def RetEx (p : Sp × Int) (w : World) (e : Ending) (w' : World) : Prop := ∃ sv mv, e = .returned (.tuple #[sv, mv, .bool p.1.full, .int .i64 p.2]) ∧ SlSt (Lt w'.heap.size) w' sv p.1.states ∧ SlM (Lt w'.heap.size) w' mv p.1.moves ∧ Below w.heap.size w w'
theorem inv_small {n : DNet} {s0 : St} {most : Nat} {p : Sp} (h : DInv n s0 most p) (hm : most ≤ 2000) (ht : n.net.trans.length ≤ 60) : ∀ m ∈ p.moves, SmallM m := by
  intro m hm'
  obtain ⟨s, s', h1, h2, h3⟩ := h.mv m hm'
  have a := lt_of_get h1
  have b := lt_of_get h2
  have c := h.le
  have d := (fire_parts (n := n) (s := s) (t := m.sym) (by rw [h3])).2.1
  exact ⟨by omega, by omega, by omega⟩
end Go.Proofs.YtlmenhjlgmejkaaGreatDoor
namespace Go.Proofs.YtlmenhjlgmejkaaGreatDoor
theorem drun_snoc {d : DNet} {t : Int} : ∀ (l : List Int) (s now : St) (k : Nat), drunFrom d s l k = (now, k + l.length, 0) → (fireD d now t).2 = 0 → drunFrom d s (l ++ [t]) k = ((fireD d now t).1, k + (l ++ [t]).length, 0) := by
  intro l
  induction l with
  | nil =>
    intro s now k h hf
    rw [drunFrom] at h
    injection h with h _
    subst h
    rw [List.nil_append, drunFrom, if_neg (by simpa using hf), drunFrom]
    simp
  | cons a l ih =>
    intro s now k h hf
    rw [drunFrom] at h
    by_cases ha : (fireD d s a).2 ≠ 0
    · rw [if_pos ha] at h
      injection h with _ h
      injection h with _ h
      exact absurd h ha
    · rw [if_neg ha] at h
      rw [List.cons_append, drunFrom, if_neg ha, ih _ now (k + 1) (by rw [h]; simp; omega) hf]
      simp
      omega
theorem prun_snoc {n : Net} {t : Int} : ∀ (l m now : List Int) (k : Nat), runFrom n m l k = (now, k + l.length, 0) → (fireB n now t).2 = 0 → runFrom n m (l ++ [t]) k = ((fireB n now t).1, k + (l ++ [t]).length, 0) := by
  intro l
  induction l with
  | nil =>
    intro s now k h hf
    rw [runFrom] at h
    injection h with h _
    subst h
    rw [List.nil_append, runFrom, if_pos hf, runFrom]
    simp
  | cons a l ih =>
    intro s now k h hf
    rw [runFrom] at h
    by_cases ha : (fireB n s a).2 = 0
    · rw [if_pos ha] at h
      rw [List.cons_append, runFrom, if_pos ha, ih _ now (k + 1) (by rw [h]; simp; omega) hf]
      simp
      omega
    · rw [if_neg ha] at h
      injection h with _ h
      injection h with _ h
      exact absurd h ha
structure Ins (d : DNet) (s now : St) (l : List Int) : Prop where
  valid : dvalidB d = true
  start : stateB d s = true
  st : stateB d now = true
  run : drunFrom d s l 0 = (now, 0 + l.length, 0)
  prun : runFrom d.net s.marks l 0 = (now.marks, 0 + l.length, 0)
variable {d : DNet} {s now : St} {l : List Int} {t : Int}
theorem Ins.marks (_ : Ins d s now l) (hf : (fireD d now t).2 = 0) : (fireB d.net now.marks t).2 = 0 ∧ (fireD d now t).1.marks = (fireB d.net now.marks t).1 := by
  obtain ⟨_, _, f3, _, vs, _, e⟩ := fire_parts hf
  exact ⟨f3, by rw [e]⟩
theorem Ins.step (h : Ins d s now l) (hf : (fireD d now t).2 = 0) : Ins d s (fireD d now t).1 (l ++ [t]) := by
  obtain ⟨f1, f2⟩ := h.marks hf
  exact ⟨h.valid, h.start, fire_state h.valid h.st hf, drun_snoc _ _ _ _ h.run hf, by rw [f2]; exact prun_snoc _ _ _ _ h.prun f1⟩
theorem Ins.inside (h : Ins d s now l) : inAllE d.vars now.vals = (true, 0) := by
  obtain ⟨_, _, s3⟩ := state_parts h.st
  unfold asgB at s3
  rw [Bool.and_eq_true, decide_eq_true_eq] at s3
  exact Prod.ext s3.2 s3.1
end Go.Proofs.YtlmenhjlgmejkaaGreatDoor
namespace Go.Proofs.YtlmenhjlgmejkaaGreatDoor
open Go.RowKit
inductive Rch (n : DNet) : St → St → Prop where
  | refl (s : St) : Rch n s s
  | step {s x : St} {t : Nat} (ht : t < n.net.trans.length) (h : (fireD n s (t : Int)).2 = 0) (hx : Rch n (fireD n s (t : Int)).1 x) : Rch n s x
def ShutS (n : DNet) (P : List St) : Prop := ∀ s ∈ P, ∀ t : Nat, t < n.net.trans.length → (fireD n s (t : Int)).2 ≠ 5 ∧ ((fireD n s (t : Int)).2 = 0 → (fireD n s (t : Int)).1 ∈ P)
section
variable {n : DNet} {s0 s x : St} {most : Nat} {p q : Sp}
structure InL (P : List St) (q : Sp) (b : Nat) : Prop where
  sub : ∀ s ∈ q.states, s ∈ P
  full : q.full = true
  mvs : q.moves.length ≤ b
  nd : q.states.Nodup
end
end Go.Proofs.YtlmenhjlgmejkaaGreatDoor
