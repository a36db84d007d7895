/- ValuePlaces: the plain law and the walk. -/
import Derived.Test.YtchfmjociflgfaaGreatDoorLawValDomains
namespace Go.Proofs.YtchfmjociflgfaaGreatDoor
open Go.RowKit

theorem u16_bounds {i : Int} (h : (Lit.int .u16 i).wf = true) : 0 ≤ i ∧ i ≤ 65535 := by
  have h' : decide ((0 : Int) ≤ i) = true ∧ decide (i ≤ (65535 : Int)) = true := by
    rw [← Bool.and_eq_true]; exact h
  simpa using h'
theorem empty_list : emptyS.toList = [] := by rw [Lib.toList_data]; rfl
theorem noS_empty : noS emptyS = true := by unfold noS; rw [empty_list]; rfl
theorem bytes_inj2 {a b : ByteArray} (h : a.toList = b.toList) : a = b := by
  rw [Lib.toList_data, Lib.toList_data] at h
  cases a; cases b
  congr 1
  exact Array.toList_inj.1 h
/-- The value at a place of the domain is valid. -/
theorem nth_valid {x : Var} (h : varB x = true) {n : Nat} (hn : (n : Int) < sizeV x) : validV (nthV x n) = true := by
  have ht := tame_of h
  have hf : formB x = true := by unfold varB at h; simp only [Bool.and_eq_true] at h; exact h.2
  obtain ⟨nm, k, lo, hi, its⟩ := x
  obtain ⟨_, _, ld, lk, li⟩ := ht
  dsimp only at ld lk li
  rcases lk with rfl | rfl | rfl
  · have hn2 : (n : Int) < 2 := hn
    have : (n : Int) = 0 ∨ (n : Int) = 1 := by omega
    show (decide ((n : Int) = 0 ∨ (n : Int) = 1) && noS emptyS) = true
    rw [decide_eq_true this, noS_empty]; rfl
  · have hn2 : (n : Int) < hi - lo + 1 := hn
    rw [form2] at hf
    simp only [Bool.and_eq_true, decide_eq_true_eq] at hf
    have b1 := num_bounds hf.1.1
    have b2 := num_bounds hf.1.2
    show (numB ((n : Int) + lo) && noS emptyS) = true
    rw [numB_yes (by omega) (by omega), noS_empty]; rfl
  · have hn2 : (n : Int) < (its.length : Int) := hn
    rw [form3] at hf
    simp only [Bool.and_eq_true, decide_eq_true_eq] at hf
    have hlt : n < its.length := by omega
    show (decide ((0 : Int) = 0) && textB (its.getD (n : Int).toNat emptyS)) = true
    rw [Int.toNat_natCast, List.getD_eq_getElem?_getD, List.getElem?_eq_getElem hlt]
    simp only [decide_true, Bool.true_and, Option.getD_some]
    exact List.all_eq_true.1 hf.1.2 _ (List.getElem_mem hlt)
/-- In a list without repetition a text stands at its own place. -/
theorem atS_self {its : List ByteArray} (h : onceB (bytesOf its) = true) {n : Nat} (hn : n < its.length) : atS its its[n] = n := by
  unfold onceB at h
  have hnd : (bytesOf its).Nodup := by simpa using h
  refine atS_hit its its[n] n its[n] (List.getElem?_eq_getElem hn) (by simp [sameS]) (fun q z hq hz => ?_)
  rw [Bool.eq_false_iff]
  intro hs
  rw [sameS_iff] at hs
  have hq' : q < its.length := by omega
  rw [List.getElem?_eq_getElem hq'] at hz
  injection hz with hz
  unfold List.Nodup at hnd
  rw [List.pairwise_iff_getElem] at hnd
  refine hnd q n (by simpa [bytesOf] using hq') (by simpa [bytesOf] using hn) hq ?_
  simp only [bytesOf, List.getElem_map]
  rw [hz, hs]
theorem place_nth {x : Var} (h : varB x = true) {n : Nat} (hn : (n : Int) < sizeV x) : placeV x (nthV x n) = n := by
  have ht := tame_of h
  have hf : formB x = true := by unfold varB at h; simp only [Bool.and_eq_true] at h; exact h.2
  obtain ⟨nm, k, lo, hi, its⟩ := x
  obtain ⟨_, _, ld, lk, li⟩ := ht
  dsimp only at ld lk li
  rcases lk with rfl | rfl | rfl
  · rfl
  · have hn2 : (n : Int) < hi - lo + 1 := hn
    show (if (n : Int) + lo < lo ∨ hi < (n : Int) + lo then (-1 : Int) else (n : Int) + lo - lo) = n
    rw [if_neg (by omega)]; omega
  · have hn2 : (n : Int) < (its.length : Int) := hn
    rw [form3] at hf
    simp only [Bool.and_eq_true, decide_eq_true_eq] at hf
    have hlt : n < its.length := by omega
    show atS its (its.getD (n : Int).toNat emptyS) = n
    rw [Int.toNat_natCast, List.getD_eq_getElem?_getD, List.getElem?_eq_getElem hlt]
    simp only [Option.getD_some]
    exact atS_self hf.2 hlt
theorem empty_of_noS {s : ByteArray} (h : noS s = true) : s = emptyS := by
  unfold noS at h
  refine bytes_inj2 ?_
  have : s.toList = [] := by simpa using h
  rw [this, empty_list]
theorem atS_at {its : List ByteArray} {s : ByteArray} {n : Nat} (h : atS its s = n) : ∃ hn : n < its.length, its[n] = s := by
  unfold atS at h
  cases hf : its.findIdx? (fun y => y.toList == s.toList) with
  | none => rw [hf] at h; simp at h
  | some i =>
    rw [hf] at h
    have hi : i = n := by have h' : (i : Int) = (n : Int) := h; omega
    subst hi
    rw [List.findIdx?_eq_some_iff_getElem] at hf
    obtain ⟨h1, h2, _⟩ := hf
    exact ⟨h1, bytes_inj2 (by simpa using h2)⟩
/-- The value at the place of a value is that value. -/
theorem nth_place {x : Var} {v : Val} (h : varB x = true) (hv : validV v = true) (hp : 0 ≤ placeV x v) : nthV x (placeV x v) = v := by
  have ht := tame_of h
  obtain ⟨nm, k, lo, hi, its⟩ := x
  obtain ⟨vk, vn, vs⟩ := v
  obtain ⟨_, _, ld, lk, li⟩ := ht
  dsimp only at ld lk li
  have e : vk = k := by
    rcases Classical.em (vk = k) with e | e
    · exact e
    · have : placeV ⟨nm, k, lo, hi, its⟩ ⟨vk, vn, vs⟩ = -1 := if_pos e
      omega
  subst e
  rcases lk with rfl | rfl | rfl
  · have := valid1 hv rfl
    have he := empty_of_noS this.2
    dsimp only at he
    show (⟨1, vn, emptyS⟩ : Val) = _
    rw [he]
  · have := valid2 hv rfl
    have he := empty_of_noS this.2
    dsimp only at he
    have hpe : placeV ⟨nm, 2, lo, hi, its⟩ ⟨2, vn, vs⟩ = if vn < lo ∨ hi < vn then -1 else vn - lo := rfl
    rw [hpe] at hp ⊢
    have : ¬ (vn < lo ∨ hi < vn) := fun hc => by rw [if_pos hc] at hp; omega
    rw [if_neg this]
    show (⟨2, vn - lo + lo, emptyS⟩ : Val) = _
    rw [he, Int.sub_add_cancel]
  · obtain ⟨_, h0, _⟩ := valid3 hv (by simp) (by simp)
    dsimp only at h0
    have hpe : placeV ⟨nm, 3, lo, hi, its⟩ ⟨3, vn, vs⟩ = atS its vs := rfl
    rw [hpe] at hp ⊢
    obtain ⟨n, hn⟩ := Int.eq_ofNat_of_zero_le hp
    rw [hn]
    obtain ⟨hlt, hs⟩ := atS_at hn
    show (⟨3, 0, its.getD (n : Int).toNat emptyS⟩ : Val) = _
    rw [Int.toNat_natCast, List.getD_eq_getElem?_getD, List.getElem?_eq_getElem hlt]
    simp only [Option.getD_some]
    rw [hs, h0]

set_option maxHeartbeats 8000000 in
set_option maxRecDepth 100000 in
theorem valuePlaces_law (x : Var) (v : Val) (i : Int) (xv : Value) (w : World) (hx : IsVar (Lt w.heap.size) w xv x) (hf : FitV v) (hi : (Lit.int .u16 i).wf = true) (ha : Amb w) :
    Calls Tryz.prog 7 #[xv, valV v, .int .u16 i] w fun e w' => e = .returned (.bool true) ∧ Below w.heap.size w w' := by
  have hx0 := hx
  obtain ⟨iv, rfl, hnm, f1, f2, f3, hit⟩ := hx
  obtain ⟨A, c, rfl, i1, i2, hit⟩ := hit.open_
  have hb0 := bone w (.cells #[.string x.name, .int .i64 x.kind, .int .i64 x.low, .int .i64 x.high, .slice A x.items.length c] 29)
  have hb := bbox hb0 (.cells #[.int .i64 v.kind, .int .i64 v.n, .string v.s] 23)
  have hB := (Blk.new w 29 #[.string x.name, .int .i64 x.kind, .int .i64 x.low, .int .i64 x.high, .slice A x.items.length c]).alloc (.cells #[.int .i64 v.kind, .int .i64 v.n, .string v.s] 23)
  have hC := Blk.new_at (t := 23) (cs := #[.int .i64 v.kind, .int .i64 v.n, .string v.s]) (w := w.alloc (.cells #[.string x.name, .int .i64 x.kind, .int .i64 x.low, .int .i64 x.high, .slice A x.items.length c] 29)) (s := w.heap.size + 1) (by simp)
  unfold valV
  go_enter Tryz.func7, Tryz.ntmps7
  go_wp2_with fail
  refine (awake_any _ (ha.now hb)).mono ?_
  rintro e w1 ⟨rfl, hb1⟩
  have hbw1 := bthen hb hb1
  have hB1 := hB.now hb1
  have hC1 := hC.now hb1
  have hx1 := hx0.now hbw1
  obtain ⟨q0, q1, q2, q3, q4⟩ := hB1.c5
  obtain ⟨y0, y1, y2⟩ := hC1.c3
  have hb20 := bone w1 (.cells #[.string x.name, .int .i64 x.kind, .int .i64 x.low, .int .i64 x.high, .slice A x.items.length c] 29)
  have hb21 := bone (w1.alloc (.cells #[.string x.name, .int .i64 x.kind, .int .i64 x.low, .int .i64 x.high, .slice A x.items.length c] 29)) (.cells #[.int .i64 v.kind, .int .i64 v.n, .string v.s] 23)
  have hs2 := (slOneX w1 x A c hx1).now hb21
  have hs3 := slOne_at (w := w1.alloc (.cells #[.string x.name, .int .i64 x.kind, .int .i64 x.low, .int .i64 x.high, .slice A x.items.length c] 29)) (s := w1.heap.size + 1) v hf (by simp)
  have hb2 := bthen hb20 hb21
  have hbw2 := bthen hbw1 hb2
  have l1 := hB1.lt
  have l2 := hC1.lt
  go_wp2_with fail
  refine (long_any [x] [v] _ _ _ hs2 hs3).mono ?_
  rintro e w3 ⟨q, rfl, hq, hb3⟩
  clear hq
  have hbw3 := bthen hbw2 hb3
  have hB3 := (hB1.now hb2).now hb3
  have hC3 := (hC1.now hb2).now hb3
  clear q0 q1 q2 q3 q4 y0 y1 y2 hs2 hs3 hb20 hb21 hb2 hb3 l1 l2 hB1 hC1 hx1 hB hC
  obtain ⟨q0, q1, q2, q3, q4⟩ := hB3.c5
  obtain ⟨y0, y1, y2⟩ := hC3.c3
  cases q
  rotate_left
  · go_wp2_with fail
    go_ret
    exact ⟨rfl, hbw3⟩
  go_wp2_with fail
  refine (validVar_any x _ _ (hx0.now hbw3)).mono ?_
  rintro e w4 ⟨rfl, hb4⟩
  have hbw4 := bthen hbw3 hb4
  have hB4 := hB3.now hb4
  have hC4 := hC3.now hb4
  clear q0 q1 q2 q3 q4 y0 y1 y2 hB3 hC3
  obtain ⟨q0, q1, q2, q3, q4⟩ := hB4.c5
  obtain ⟨y0, y1, y2⟩ := hC4.c3
  generalize hqx : varB x = qx
  have HX := Lib.hid hqx
  clear hqx
  cases qx
  · go_wp2_with fail
    go_ret
    exact ⟨rfl, hbw4⟩
  have htm := tame_of HX.out
  have hs1 := size_pos htm
  have hs2 := sizeV_le htm
  have e2 : sizeE x = (sizeV x, 0) := by unfold sizeE; rw [HX.out]; rfl
  go_wp2_with fail
  refine (sizeE_any x _ _ (hx0.now hbw4)).mono ?_
  rintro e w5 ⟨rfl, hb5⟩
  rw [e2]
  dsimp only
  clear e2
  have hbw5 := bthen hbw4 hb5
  have hB5 := hB4.now hb5
  have hC5 := hC4.now hb5
  clear q0 q1 q2 q3 q4 y0 y1 y2 hB4 hC4
  obtain ⟨q0, q1, q2, q3, q4⟩ := hB5.c5
  obtain ⟨y0, y1, y2⟩ := hC5.c3
  obtain ⟨hi0, hi1⟩ := u16_bounds hi
  clear hi
  have HSX := Lib.hid (rfl : sizeV x = sizeV x)
  have hm0 : 0 ≤ i % sizeV x := Int.emod_nonneg _ (by omega)
  have hm1 : i % sizeV x < sizeV x := Int.emod_lt_of_pos _ (by omega)
  have hmt : Int.tmod i (sizeV x) = i % sizeV x := Int.tmod_eq_emod_of_nonneg hi0
  obtain ⟨n, hn⟩ := Int.eq_ofNat_of_zero_le hm0
  have hnlt : (n : Int) < sizeV x := by omega
  go_wp2_with fail
  have en : nthE x n = (nthV x n, 0) := by unfold nthE; rw [HX.out, if_pos rfl, if_neg (by omega)]
  refine (nthE_any x n _ _ (hx0.now hbw5)).mono ?_
  rintro e w6 ⟨rfl, hb6⟩
  rw [en]
  dsimp only
  have HPN := Lib.hid (place_nth HX.out hnlt)
  have HVN := Lib.hid (nth_valid HX.out hnlt)
  have HFN := Lib.hid (fit_nth htm hnlt hx0.sizes)
  clear hn hm0 hm1 hmt en hi0 hi1
  have hbw6 := bthen hbw5 hb6
  have hB6 := hB5.now hb6
  have hC6 := hC5.now hb6
  clear q0 q1 q2 q3 q4 y0 y1 y2 hB5 hC5
  generalize nthV x n = nt at *
  have hrkn := fun (W : World) (h : IsVar (Lt W.heap.size) W (.agg #[.string x.name, .int .i64 x.kind, .int .i64 x.low, .int .i64 x.high, .slice A x.items.length c]) x) => rankE_any x nt _ W h HFN.out
  have hinn := fun (W : World) (h : IsVar (Lt W.heap.size) W (.agg #[.string x.name, .int .i64 x.kind, .int .i64 x.low, .int .i64 x.high, .slice A x.items.length c]) x) => inE_any x nt _ W h HFN.out
  have hvn := fun W => validV_any nt W HFN.out
  have er : rankE x nt = ((n : Int), 0) := by unfold rankE; rw [HX.out, HVN.out, HPN.out, Bool.and_true, if_pos rfl, if_neg (by omega)]
  have ei : inE x nt = (true, 0) := by unfold inE; rw [HX.out, HVN.out, HPN.out]; simp
  rw [er] at hrkn
  rw [ei] at hinn
  rw [HVN.out] at hvn
  unfold valV at hrkn hinn hvn ⊢
  have HR := Lib.hid hrkn
  have HI := Lib.hid hinn
  have HV := Lib.hid hvn
  clear hrkn hinn hvn er ei
  have hb7 := bone w6 (.cells #[.int .i64 nt.kind, .int .i64 nt.n, .string nt.s] 23)
  have hD7 := Blk.new w6 23 #[.int .i64 nt.kind, .int .i64 nt.n, .string nt.s]
  go_upto_region 10 with fail
  have hbw7 := bthen hbw6 hb7
  have hB7 := hB6.now hb7
  have hC7 := hC6.now hb7
  generalize hw7 : w6.alloc (.cells #[.int .i64 nt.kind, .int .i64 nt.n, .string nt.s] 23) = w7 at *
  clear hw7
  obtain ⟨q0, q1, q2, q3, q4⟩ := hB7.c5
  obtain ⟨d0, d1, d2⟩ := hD7.c3
  go_wp2_with fail
  refine (HR.out _ (hx0.now hbw7)).mono ?_
  rintro e w8 ⟨rfl, hb8⟩
  have hbw8 := bthen hbw7 hb8
  have hB8 := hB7.now hb8
  have hC8 := hC7.now hb8
  have hD8 := hD7.now hb8
  clear q0 q1 q2 q3 q4 d0 d1 d2 hB7 hC7 hD7
  obtain ⟨q0, q1, q2, q3, q4⟩ := hB8.c5
  obtain ⟨d0, d1, d2⟩ := hD8.c3
  go_wp2_with fail
  refine (HI.out _ (hx0.now hbw8)).mono ?_
  rintro e w9 ⟨rfl, hb9⟩
  have hbw9 := bthen hbw8 hb9
  have hB9 := hB8.now hb9
  have hC9 := hC8.now hb9
  have hD9 := hD8.now hb9
  clear q0 q1 q2 q3 q4 d0 d1 d2 hB8 hC8 hD8
  obtain ⟨d0, d1, d2⟩ := hD9.c3
  have hnn : ((n : Int) != (n : Int)) = false := by simp
  go_wp2_with fail
  refine (HV.out _).mono ?_
  rintro e w10 ⟨rfl, hb10⟩
  have hbw10 := bthen hbw9 hb10
  have hB10 := hB9.now hb10
  have hC10 := hC9.now hb10
  clear d0 d1 d2 hB9 hC9 hD9 HR HI HV
  obtain ⟨q0, q1, q2, q3, q4⟩ := hB10.c5
  obtain ⟨y0, y1, y2⟩ := hC10.c3
  go_wp2_with fail
  have hin := inE_any x v _ w10 (hx0.now hbw10) hf
  unfold valV at hin
  refine hin.mono ?_
  clear hin
  rintro e w11 ⟨rfl, hb11⟩
  have hbw11 := bthen hbw10 hb11
  have hB11 := hB10.now hb11
  have hC11 := hC10.now hb11
  clear q0 q1 q2 q3 q4 y0 y1 y2 hB10 hC10
  obtain ⟨q0, q1, q2, q3, q4⟩ := hB11.c5
  obtain ⟨y0, y1, y2⟩ := hC11.c3
  go_wp2_with fail
  have hrk := rankE_any x v _ w11 (hx0.now hbw11) hf
  unfold valV at hrk
  refine hrk.mono ?_
  clear hrk
  rintro e w12 ⟨rfl, hb12⟩
  have hbw12 := bthen hbw11 hb12
  have hB12 := hB11.now hb12
  have hC12 := hC11.now hb12
  clear q0 q1 q2 q3 q4 y0 y1 y2 hB11 hC11
  obtain ⟨q0, q1, q2, q3, q4⟩ := hB12.c5
  obtain ⟨y0, y1, y2⟩ := hC12.c3
  have HIN : Hid (inE x v = if validV v then (decide (0 ≤ placeV x v), 0) else (false, 1)) := by show _ = _; unfold inE; rw [HX.out]; rfl
  have HRK : Hid (rankE x v = if validV v then (if placeV x v < 0 then (0, 11) else (placeV x v, 0)) else (0, 1)) := by show _ = _; unfold rankE; rw [HX.out]; rfl
  have HPL := Lib.hid (fun hv => place_lt htm (v := v) hv)
  have HNP := Lib.hid (fun hv hp => nth_place (v := v) HX.out hv hp)
  generalize hqv : validV v = qv at *
  have HV := Lib.hid hqv
  clear hqv
  cases qv
  · have e1 : inE x v = (false, 1) := HIN.out
    have e4 : rankE x v = (0, 1) := HRK.out
    rw [e1, e4]
    clear e1 e4 HIN HRK
    go_wp2_with fail
    go_ret
    exact ⟨rfl, hbw12⟩
  have e1 : inE x v = (decide (0 ≤ placeV x v), 0) := HIN.out
  have e5 : rankE x v = if placeV x v < 0 then (0, 11) else (placeV x v, 0) := HRK.out
  have hpl := HPL.out rfl
  by_cases hz : placeV x v < 0
  · rw [if_pos hz] at e5
    rw [decide_eq_false (by omega)] at e1
    rw [e1, e5]
    clear e1 e5 HIN HRK hpl hz
    go_wp2_with fail
    go_ret
    exact ⟨rfl, hbw12⟩
  rw [if_neg hz] at e5
  rw [decide_eq_true (by omega)] at e1
  rw [e1, e5]
  dsimp only
  have hnp := HNP.out rfl (by omega)
  have en : nthE x (placeV x v) = (v, 0) := by unfold nthE; rw [HX.out, if_pos rfl, if_neg (by omega), hnp]
  have hcall := fun (W : World) (h : IsVar (Lt W.heap.size) W (.agg #[.string x.name, .int .i64 x.kind, .int .i64 x.low, .int .i64 x.high, .slice A x.items.length c]) x) => nthE_any x (placeV x v) _ W h
  rw [en] at hcall
  dsimp only at hcall
  unfold valV at hcall
  have HCL := Lib.hid hcall
  clear e1 e5 HIN HRK hcall hnp en HNP HPL
  generalize placeV x v = z at *
  go_wp2_with fail
  refine (HCL.out _ (hx0.now hbw12)).mono ?_
  rintro e w13 ⟨rfl, hb13⟩
  have hbw13 := bthen hbw12 hb13
  have hC13 := hC12.now hb13
  clear q0 q1 q2 q3 q4 y0 y1 y2 hB12 hC12
  have hb14 := bone w13 (.cells #[.int .i64 v.kind, .int .i64 v.n, .string v.s] 23)
  have hD14 := Blk.new w13 23 #[.int .i64 v.kind, .int .i64 v.n, .string v.s]
  go_upto_region 19 with fail
  have hbw14 := bthen hbw13 hb14
  have hC14 := hC13.now hb14
  generalize hw14 : w13.alloc (.cells #[.int .i64 v.kind, .int .i64 v.n, .string v.s] 23) = w14 at *
  clear hw14
  obtain ⟨y0, y1, y2⟩ := hC14.c3
  obtain ⟨d0, d1, d2⟩ := hD14.c3
  have heq := fun W => run_eqV W v v
  rw [decide_eq_true rfl] at heq
  go_wp2_with fail
  go_ret
  exact ⟨rfl, hbw14⟩
end Go.Proofs.YtchfmjociflgfaaGreatDoor
