/- Texts of this seat, merged. -/
import Derived.Test.YtoalecalahkblaaGreatDoorIy01
import Derived.Test.YtoalecalahkblaaGreatDoorIy02
import Derived.Test.YtoalecalahkblaaGreatDoorIy03
import Derived.Test.YtoalecalahkblaaGreatDoorIy04
import Derived.Test.YtoalecalahkblaaGreatDoorIy05
import Derived.Test.YtoalecalahkblaaGreatDoorIy06
import Derived.Test.YtoalecalahkblaaGreatDoorIy07
import Derived.Test.YtoalecalahkblaaGreatDoorIy09
import Derived.Test.YtoalecalahkblaaGreatDoorIy11
import Derived.Test.YtoalecalahkblaaGreatDoorIy12
import Derived.Test.YtoalecalahkblaaGreatDoorIy14
import Derived.Test.YtoalecalahkblaaGreatDoorIy16
import Derived.Test.YtoalecalahkblaaGreatDoorIy17
import Derived.Test.YtoalecalahkblaaGreatDoorIy18
import Derived.Test.YtoalecalahkblaaGreatDoorIy19
import Derived.Test.YtoalecalahkblaaGreatDoorIy21
set_option linter.all false
set_option linter.all false
namespace Go.Proofs.YtoalecalahkblaaGreatDoor
open Go.RowKit
section
variable {α : Type} [Inhabited α] {enc : α → List Value} {k : Nat} {w0 : World} {blk off : Nat} {d0 : Array α}
theorem mg_if {lt : α → α → Bool} {X Y : List α} (h : X = [] ∨ Y = []) : mg lt X Y = X ++ Y := by
  rcases h with rfl | rfl
  · rw [mg_nil]; rfl
  · rw [mg_none, List.append_nil]
theorem asc_sub {lt : α → α → Bool} {A B : List α} (h : AscM lt B) (hs : A.Sublist B) : AscM lt A := List.Pairwise.sublist hs h
def SymOk (enc : α → List Value) (k : Nat) (w0 : World) (blk off : Nat) (N cap gf : Nat) (lt : α → α → Bool) (n : Nat) : Prop :=
  ∀ (W : World) (P X Y S : List α), X.length + Y.length ≤ n → 0 < X.length → 0 < Y.length → P.length + X.length + Y.length + S.length = N → AscM lt X → AscM lt Y → Go.Proofs.SWK enc k w0 blk off (P ++ X ++ Y ++ S).toArray W →
    Calls Tryz.prog 149 #[.slice (some ⟨blk, off, none⟩) N cap, .int .i64 P.length, .int .i64 ((P.length + X.length : Nat) : Int), .int .i64 ((P.length + X.length + Y.length : Nat) : Int), .func (.func gf) #[] #[]] W fun e w' => e = .returned (.tuple #[]) ∧ Go.Proofs.SWK enc k w0 blk off (P ++ mg lt X Y ++ S).toArray w'
set_option maxHeartbeats 8000000 in
set_option maxRecDepth 100000 in
theorem sym_more (T : Nat) (hT : 69 = T) (aE : ∀ w, (isAgg T).run Tryz.prog w = .ok true w) (zE : ∀ w, (Go.sizeOf T).run Tryz.prog w = .ok k w) (hk0 : k = 6) (R : Go.Proofs.RowK enc k w0 blk off d0) (cap : Nat) (gf : Nat) (cf : α → α → Int) (hO : Go.Sort.SWO (Go.Proofs.ltOf cf))
    (eg : ∀ args w, (callFunc gf args).run Tryz.prog w = .ok (.enter gf args) w) (hC : Go.Proofs.CmpLays Tryz.prog gf #[] enc k cf blk off d0.size w0) (nn : Nat) (IH : SymOk enc k w0 blk off d0.size cap gf (Go.Proofs.ltOf cf) nn) (W : World) (P X Y S : List α)
    (hnn : X.length + Y.length ≤ nn + 1) (hN : P.length + X.length + Y.length + S.length = d0.size) (hX2 : 2 ≤ X.length) (hY2 : 2 ≤ Y.length) (hX : AscM (Go.Proofs.ltOf cf) X) (hY : AscM (Go.Proofs.ltOf cf) Y) (hS : Go.Proofs.SWK enc k w0 blk off (P ++ X ++ Y ++ S).toArray W) (hsz : d0.size < 4611686018427387904) :
    Calls Tryz.prog 149 #[.slice (some ⟨blk, off, none⟩) d0.size cap, .int .i64 P.length, .int .i64 ((P.length + X.length : Nat) : Int), .int .i64 ((P.length + X.length + Y.length : Nat) : Int), .func (.func gf) #[] #[]] W fun e w' => e = .returned (.tuple #[]) ∧ Go.Proofs.SWK enc k w0 blk off (P ++ mg (Go.Proofs.ltOf cf) X Y ++ S).toArray w' := by
  have HROT := Lib.hid (fun (W' : World) (P' X' Y' S' : List α) h1 h2 h3 h4 => rotate_sw T hT aE zE hk0 R cap (.func (.func gf) #[] #[]) W' P' X' Y' S' h1 h2 h3 h4 hsz)
  have HIH := Lib.hid IH
  have HST := Lib.hid hS
  have HR := Lib.hid R
  have HC := Lib.hid hC
  have HX := Lib.hid hX
  have HY := Lib.hid hY
  have HSZ : Hid ((P ++ X ++ Y ++ S).toArray.size = d0.size) := by show _ = _; simp; omega
  obtain ⟨N, hNN⟩ : ∃ N, d0.size = N := ⟨_, rfl⟩
  rw [hNN] at hN hsz HC HROT HIH ⊢
  have HNN := Lib.hid hNN
  obtain ⟨a, ha⟩ : ∃ a, P.length = a := ⟨_, rfl⟩
  obtain ⟨x, hx⟩ : ∃ x, X.length = x := ⟨_, rfl⟩
  obtain ⟨y, hy⟩ : ∃ y, Y.length = y := ⟨_, rfl⟩
  rw [ha, hx, hy] at hN
  rw [hx, hy] at hnn
  rw [hx] at hX2
  rw [hy] at hY2
  rw [ha, hx, hy, show ((a + x : Nat) : Int) = (a : Int) + (x : Int) by omega, show ((a + x + y : Nat) : Int) = (a : Int) + (x : Int) + (y : Int) by omega]
  have HA := Lib.hid ha
  have HNX := Lib.hid hx
  have HNY := Lib.hid hy
  have haN : a + x + y ≤ N := by omega
  have HTL : Hid (∀ o, Op.load 69 o = Op.load T o) := Lib.hid fun o => by rw [hT]
  obtain ⟨TS, hTS⟩ : ∃ TS : TypeId, 36 = TS := ⟨_, rfl⟩
  have HTI : Hid (∀ o v, Op.indexAddr 36 o v = Op.indexAddr TS o v) := Lib.hid fun o v => by rw [hTS]
  have t36 : Tryz.prog.underlying TS = some (.slice T) := by rw [← hTS, ← hT]; exact Tryz.underlying36
  have u36 := run_underlying t36
  have HOO := Lib.hid hO
  obtain ⟨M, hM⟩ : ∃ M, (x + y) / 2 = M := ⟨_, rfl⟩
  have hM1 : 2 * M ≤ x + y := by omega
  have hM2 : x + y ≤ 2 * M + 1 := by omega
  clear hS hC hNN ha hx hy hX hY R hk0 hO hT hTS IH hM
  have hone : (((a : Int) + (x : Int) - (a : Int)) == 1) = false := by rw [show (a : Int) + (x : Int) - (a : Int) = (x : Int) by omega]; simp; omega
  have htwo : (((a : Int) + (x : Int) + (y : Int) - ((a : Int) + (x : Int))) == 1) = false := by rw [show (a : Int) + (x : Int) + (y : Int) - ((a : Int) + (x : Int)) = (y : Int) by omega]; simp; omega
  go_enter Tryz.func149, Tryz.ntmps149
  go_upto_region 24 with fail
  go_cut [18] from 129 to 134 (fun v W' => v = .int .i64 ((a : Int) + (M : Int)) ∧ W = W')
  case first =>
    go_wp2_with fail
    go_meet
    exact ⟨by congr 1; omega, rfl⟩
  case rest =>
  obtain ⟨rfl, rfl⟩ := hcut
  clear hone htwo
  have HLO : Hid (∃ lo hi : Nat, lo ≤ hi ∧ hi ≤ x ∧ hi ≤ M ∧ M ≤ y + lo ∧ (lo = 0 ∨ M = y + lo) ∧ (hi = x ∨ hi = M) ∧ (M < x → lo + y = M ∧ hi = M) ∧ (¬ M < x → lo = 0 ∧ hi = x)) := Lib.hid (by
    by_cases h : M < x
    · by_cases h2 : y ≤ M
      · exact ⟨M - y, M, by omega, by omega, by omega, by omega, by omega, .inr rfl, fun _ => ⟨by omega, rfl⟩, fun h' => absurd h h'⟩
      · exfalso; omega
    · exact ⟨0, x, by omega, by omega, by omega, by omega, .inl rfl, .inl rfl, fun h' => absurd h' h, fun _ => ⟨rfl, rfl⟩⟩)
  obtain ⟨lo, hi, hlh, hhx, hhM, hly, hl0, hh0, hcase1, hcase2⟩ := HLO.out
  have HL0 := Lib.hid hl0
  have HH0 := Lib.hid hh0
  have HC1 := Lib.hid hcase1
  have HC2 := Lib.hid hcase2
  clear hl0 hh0 hcase1 hcase2 HLO
  obtain ⟨q0, hq0⟩ : ∃ q0, decide (M < x) = q0 := ⟨_, rfl⟩
  go_upto_if 140 with fail
  have HQ0 := Lib.hid hq0
  clear hq0
  go_cut [20, 21] from 141 to 146 (fun s r W' => s = .int .i64 ((a : Int) + (lo : Int)) ∧ r = .int .i64 ((a : Int) + (hi : Int)) ∧ W = W')
  case first =>
    cases q0 with
    | false =>
      have hc := HC2.out (by have := of_decide_eq_false HQ0.out; omega)
      obtain ⟨rfl, rfl⟩ := hc
      go_wp2_with fail
      go_meet
      exact ⟨by congr 1 <;> omega, rfl, rfl⟩
    | true =>
      have hc := HC1.out (by have := of_decide_eq_true HQ0.out; omega)
      obtain ⟨h1, rfl⟩ := hc
      go_wp2_with fail
      go_meet
      exact ⟨by congr 1 <;> omega, rfl, rfl⟩
  case rest =>
  obtain ⟨rfl, rfl, rfl⟩ := hcut
  clear HQ0
  obtain ⟨pp, hpp⟩ : ∃ pp, pp + 1 = a + M + (a + x) := ⟨a + M + (a + x) - 1, by omega⟩
  go_upto_region 32 with fail
  go_cut [22] from 147 to 148 (fun v W' => v = .int .i64 (pp : Int) ∧ W = W')
  case first =>
    go_wp2_with fail
    go_meet
    exact ⟨by congr 1; omega, rfl⟩
  case rest =>
  obtain ⟨rfl, rfl⟩ := hcut
  have HPP := Lib.hid hpp
  clear hpp
  go_wp2_with fail
  go_loopw [20, 21] (fun sv rv wr => ∃ i q : Nat, sv = .int .i64 ((a : Int) + (i : Int)) ∧ rv = .int .i64 ((a : Int) + (q : Int)) ∧ lo ≤ i ∧ i ≤ q ∧ q ≤ hi ∧ Hid (∀ u v, 0 < i → X[i - 1]? = some u → Y[M - i]? = some v → Go.Proofs.ltOf cf v u = false) ∧ Hid (∀ u v, 0 < M - q → Y[M - q - 1]? = some v → X[q]? = some u → Go.Proofs.ltOf cf v u = true) ∧ Hid (Go.Proofs.SWK enc k w0 blk off (P ++ X ++ Y ++ S).toArray wr)) (fun sv rv _ => (intOf rv - intOf sv).toNat)
  case atStart =>
    refine ⟨lo, hi, rfl, rfl, Nat.le_refl _, hlh, Nat.le_refl _, Lib.hid (fun u v h0 hu hv => ?_), Lib.hid (fun u v h0 hv hu => ?_), HST⟩
    · rcases HL0.out with h | h
      · omega
      · rw [List.getElem?_eq_none (by have := HNY.out; omega)] at hv; cases hv
    · rcases HH0.out with h | h
      · rw [List.getElem?_eq_none (by have := HNX.out; omega)] at hu; cases hu
      · omega
  case round =>
    obtain ⟨i, q, rfl, rfl, hli, hiq, hqh, HI, HJ, HS⟩ := hrel
    obtain ⟨wo, hwo⟩ : ∃ wo, wr = wo := ⟨_, rfl⟩
    rw [hwo] at HS ⊢
    clear hwo HST
    by_cases hlt : i < q
    · have x1 : (a : Int) + (i : Int) < (a : Int) + (q : Int) := by omega
      go_upto_region 34 with fail
      obtain ⟨h, hh⟩ : ∃ h, (i + q) / 2 = h := ⟨_, rfl⟩
      have hih : i ≤ h := by omega
      have hhq : h < q := by omega
      go_cut [23] from 152 to 157 (fun v W' => v = .int .i64 ((a : Int) + (h : Int)) ∧ wo = W')
      case first =>
        go_wp2_with fail
        go_meet
        exact ⟨by congr 1; omega, rfl⟩
      case rest =>
      obtain ⟨rfl, rfl⟩ := hcut
      obtain ⟨u, hu⟩ : ∃ u, X[h]? = some u := ⟨_, List.getElem?_eq_getElem (by have := HNX.out; omega)⟩
      obtain ⟨v, hv⟩ : ∃ v, Y[M - h - 1]? = some v := ⟨_, List.getElem?_eq_getElem (by have := HNY.out; omega)⟩
      have hgx : (P ++ X ++ Y ++ S).toArray[a + h]! = u := swk_at (by
        have hl : h < X.length := by have := HNX.out; omega
        rw [List.getElem?_append_left (by simp; have := HA.out; omega), List.getElem?_append_left (by simp; have := HA.out; omega), List.getElem?_append_right (by have := HA.out; omega), HA.out, Nat.add_sub_cancel_left]
        exact hu)
      have hgy : (P ++ X ++ Y ++ S).toArray[a + x + (M - h - 1)]! = v := swk_at (by
        have h1 := HA.out
        have h2 := HNX.out
        have h3 := HNY.out
        rw [List.getElem?_append_left (by simp; omega), List.getElem?_append_right (by simp; omega)]
        simp only [List.length_append]
        rw [show a + x + (M - h - 1) - (P.length + X.length) = M - h - 1 by omega]
        exact hv)
      have HCM := Lib.hid (fun n os => HS.out.cmp HC.out (by rw [HSZ.out, HNN.out]) v u n os)
      have HLX := Lib.hid (fun n os => HS.out.ld HR.out HSZ.out Tryz.prog (a + h) (by rw [HSZ.out, HNN.out]; omega) n os)
      have HLY := Lib.hid (fun n os => HS.out.ld HR.out HSZ.out Tryz.prog (a + x + (M - h - 1)) (by rw [HSZ.out, HNN.out]; omega) n os)
      rw [hgx] at HLX
      rw [hgy] at HLY
      clear hgx hgy
      go_upto_region 35 with fail
      go_cut [171] from 158 to 171 (fun b W' => b = .bool (!Go.Proofs.ltOf cf v u) ∧ Go.Proofs.SWK enc k w0 blk off (P ++ X ++ Y ++ S).toArray W')
      case first =>
        have hcg := HCM.out
        have lx := HLX.out
        have ly := HLY.out
        have nx : (enc u).length = k := HR.out.hk u
        have ny : (enc v).length = k := HR.out.hk v
        have p1 : (0 : Int) ≤ (a : Int) + (h : Int) := by omega
        have b1 : (a : Int) + (h : Int) < (N : Int) := by omega
        have e1 : ((a : Int) + (h : Int)).toNat = a + h := by omega
        have hpp := HPP.out
        have p2 : (0 : Int) ≤ (pp : Int) - ((a : Int) + (h : Int)) := by omega
        have b2 : (pp : Int) - ((a : Int) + (h : Int)) < (N : Int) := by omega
        have e2 : ((pp : Int) - ((a : Int) + (h : Int))).toNat = a + x + (M - h - 1) := by omega
        have p3 : (a : Int) + (h : Int) ≤ (pp : Int) := by omega
        have b3 : (pp : Int) < (N : Int) + ((a : Int) + (h : Int)) := by omega
        have b4 : (pp : Int) < (a : Int) + (h : Int) + (N : Int) := by omega
        have wq : IntKind.i64.wrap ((pp : Int) - ((a : Int) + (h : Int))) = (pp : Int) - ((a : Int) + (h : Int)) := by rw [IntKind.wrap_i64]; omega
        clear hpp
        have mixed : Tryz.prog.follows .mixedOrders = true := by kernel_rfl
        clear HCM HLX HLY
        simp only [HTL.out, HTI.out]
        go_quiet_grown (first | (go_at_fn gf; refine Calls.grown_of (hcg _ _)))
        go_wp2_with fail
        go_meet
        exact ⟨rfl, HS.out.grown nq osq⟩
      case rest =>
      obtain ⟨rfl, hs2⟩ := hcut
      obtain ⟨w2, hw2⟩ : ∃ w2, wc = w2 := ⟨_, rfl⟩
      rw [hw2] at hs2 ⊢
      have HS2 := Lib.hid hs2
      have HUH := Lib.hid hu
      have HVH := Lib.hid hv
      clear hw2 hs2 hu hv HCM HLX HLY HS
      obtain ⟨qb, hqb⟩ : ∃ qb, Go.Proofs.ltOf cf v u = qb := ⟨_, rfl⟩
      rw [hqb]
      have HQ := Lib.hid hqb
      clear hqb
      cases qb with
      | false =>
        go_wp2_with fail
        go_roundw
        case rel =>
          refine ⟨h + 1, q, by go_num, rfl, by omega, by omega, hqh, Lib.hid (fun u' v' _ hu' hv' => ?_), HJ, HS2⟩
          rw [Nat.add_sub_cancel, HUH.out] at hu'
          injection hu' with hu'
          rw [show M - (h + 1) = M - h - 1 by omega, HVH.out] at hv'
          injection hv' with hv'
          rw [← hu', ← hv']; exact HQ.out
        case measure => simp [intOf]; omega
      | true =>
        go_wp2_with fail
        go_roundw
        case rel =>
          refine ⟨i, h, rfl, rfl, hli, hih, by omega, HI, Lib.hid (fun u' v' _ hv' hu' => ?_), HS2⟩
          rw [HUH.out] at hu'
          injection hu' with hu'
          rw [HVH.out] at hv'
          injection hv' with hv'
          rw [← hu', ← hv']; exact HQ.out
        case measure => simp [intOf]; omega
    · have hiq2 : i = q := by omega
      subst hiq2
      have x1 : ¬ (a : Int) + (i : Int) < (a : Int) + (i : Int) := by omega
      obtain ⟨j, hj⟩ : ∃ j, M - i = j := ⟨_, rfl⟩
      have hiM : i ≤ M := by omega
      have hix : i ≤ x := by omega
      have hjy : j ≤ y := by omega
      have hMe1 : M ≤ i + j := by omega
      have hMe2 : i + j ≤ M := by omega
      have HMG : Hid (mg (Go.Proofs.ltOf cf) X Y = mg (Go.Proofs.ltOf cf) (X.take i) (Y.take j) ++ mg (Go.Proofs.ltOf cf) (X.drop i) (Y.drop j)) := Lib.hid (sm_at HOO.out HX.out HY.out (by have := HNX.out; omega) (by have := HNY.out; omega) (fun u v h0 hu hv => HI.out u v h0 hu (by rw [hj]; exact hv)) (fun u v h0 hv hu => HJ.out u v (by omega) (by rw [hj]; exact hv) hu))
      have HX1 := Lib.hid (asc_sub HX.out (List.take_sublist i X))
      have HX2 := Lib.hid (asc_sub HX.out (List.drop_sublist i X))
      have HY1 := Lib.hid (asc_sub HY.out (List.take_sublist j Y))
      have HY2 := Lib.hid (asc_sub HY.out (List.drop_sublist j Y))
      have HLX1 : Hid ((X.take i).length = i) := by show _ = _; rw [List.length_take]; have := HNX.out; omega
      have HLX2 : Hid ((X.drop i).length = x - i) := by show _ = _; rw [List.length_drop, HNX.out]
      have HLY1 : Hid ((Y.take j).length = j) := by show _ = _; rw [List.length_take]; have := HNY.out; omega
      have HLY2 : Hid ((Y.drop j).length = y - j) := by show _ = _; rw [List.length_drop, HNY.out]
      have HS0 : Hid (Go.Proofs.SWK enc k w0 blk off (P ++ (X.take i ++ X.drop i) ++ (Y.take j ++ Y.drop j) ++ S).toArray wo) := Lib.hid (by rw [List.take_append_drop, List.take_append_drop]; exact HS.out)
      obtain ⟨X1, hX1⟩ : ∃ X1, X.take i = X1 := ⟨_, rfl⟩
      obtain ⟨X2, hX2'⟩ : ∃ X2, X.drop i = X2 := ⟨_, rfl⟩
      obtain ⟨Y1, hY1⟩ : ∃ Y1, Y.take j = Y1 := ⟨_, rfl⟩
      obtain ⟨Y2, hY2'⟩ : ∃ Y2, Y.drop j = Y2 := ⟨_, rfl⟩
      rw [hX1] at HMG HX1 HLX1 HS0
      rw [hX2'] at HMG HX2 HLX2 HS0
      rw [hY1] at HMG HY1 HLY1 HS0
      rw [hY2'] at HMG HY2 HLY2 HS0
      have HPP2 := HPP
      clear HI HJ HS hX1 hX2' hY1 hY2' hlt hiq hqh hli hj
      go_upto_region 38 with fail
      go_cut [24] from 175 to 177 (fun v W' => v = .int .i64 ((a : Int) + (x : Int) + (j : Int)) ∧ wo = W')
      case first =>
        go_wp2_with fail
        go_meet
        exact ⟨by congr 1; omega, rfl⟩
      case rest =>
      obtain ⟨rfl, rfl⟩ := hcut
      go_upto_region 39 with fail
      go_cut [185] from 178 to 185 (fun b W' => ∃ qb, b = .bool qb ∧ (qb = true ↔ (i < x ∧ 0 < j)) ∧ wo = W')
      case first =>
        by_cases h1 : i < x
        · have h1' : (a : Int) + (i : Int) < (a : Int) + (x : Int) := by omega
          by_cases h2 : 0 < j
          · have h2' : (a : Int) + (x : Int) < (a : Int) + (x : Int) + (j : Int) := by omega
            go_wp2_with fail
            go_meet
            exact ⟨true, by simp [h1, h2], ⟨fun _ => ⟨h1, h2⟩, fun _ => rfl⟩, rfl⟩
          · have h2' : ¬ (a : Int) + (x : Int) < (a : Int) + (x : Int) + (j : Int) := by omega
            go_wp2_with fail
            go_meet
            exact ⟨false, by simp <;> omega, ⟨fun h => Bool.noConfusion h, fun h => absurd h.2 h2⟩, rfl⟩
        · have h1' : ¬ (a : Int) + (i : Int) < (a : Int) + (x : Int) := by omega
          go_wp2_with fail
          go_meet
          exact ⟨false, by simp <;> omega, ⟨fun h => Bool.noConfusion h, fun h => absurd h.1 h1⟩, rfl⟩
      case rest =>
      obtain ⟨qb, rfl, hqb, rfl⟩ := hcut
      have HQB := Lib.hid hqb
      clear hqb
      go_upto_if 185 with fail
      go_cut [] from 186 to 191 (fun W' => Go.Proofs.SWK enc k w0 blk off (P ++ X1 ++ Y1 ++ X2 ++ Y2 ++ S).toArray W')
      case first =>
        cases qb with
        | true =>
          have hq := HQB.out.1 rfl
          have hr := HROT.out wo (P ++ X1) X2 Y1 (Y2 ++ S) (by rw [List.length_append, List.length_append, HA.out, HLX1.out, HLX2.out, HLY1.out, HLY2.out]; omega) (by rw [HLX2.out]; omega) (by rw [HLY1.out]; omega) (by have := HS0.out; simpa using this)
          rw [HLX2.out, HLY1.out, List.length_append, HA.out, HLX1.out, show ((a + i : Nat) : Int) = (a : Int) + (i : Int) by omega, show ((a + i + (x - i) : Nat) : Int) = (a : Int) + (x : Int) by omega, show ((a + i + (x - i) + j : Nat) : Int) = (a : Int) + (x : Int) + (j : Int) by omega] at hr
          have HRT := Lib.hid hr
          clear hr hq
          go_wp2_with fail
          (with_reducible refine HRT.out.mono ?_)
          rintro _ w2 ⟨rfl, hs2⟩
          have HS2 := Lib.hid hs2
          clear hs2
          go_wp2_with fail
          go_meet
          have := HS2.out
          simpa using this
        | false =>
          have hE : X2 = [] ∨ Y1 = [] := by
            by_cases h1 : i < x
            · by_cases h2 : 0 < j
              · have := HQB.out.2 ⟨h1, h2⟩; cases this
              · exact .inr (List.eq_nil_of_length_eq_zero (by rw [HLY1.out]; omega))
            · exact .inl (List.eq_nil_of_length_eq_zero (by rw [HLX2.out]; omega))
          have HS2 : Hid (Go.Proofs.SWK enc k w0 blk off (P ++ X1 ++ Y1 ++ X2 ++ Y2 ++ S).toArray wo) := Lib.hid (by
            have := HS0.out
            rcases hE with rfl | rfl <;> simpa using this)
          clear hE
          go_wp2_with fail
          go_meet
          exact HS2.out
      case rest =>
      have HS1 := Lib.hid hcut
      clear hcut HS0 HROT
      go_upto_region 41 with fail
      go_cut [199] from 192 to 199 (fun b W' => ∃ qb, b = .bool qb ∧ (qb = true ↔ (0 < i ∧ 0 < j)) ∧ wc = W')
      case first =>
        by_cases h1 : 0 < i
        · have h1' : (a : Int) < (a : Int) + (i : Int) := by omega
          by_cases h2 : i < M
          · have h2' : (a : Int) + (i : Int) < (a : Int) + (M : Int) := by omega
            go_wp2_with fail
            go_meet
            exact ⟨true, by simp <;> omega, ⟨fun _ => ⟨h1, by omega⟩, fun _ => rfl⟩, rfl⟩
          · have h2' : ¬ (a : Int) + (i : Int) < (a : Int) + (M : Int) := by omega
            go_wp2_with fail
            go_meet
            exact ⟨false, by simp <;> omega, ⟨fun h => Bool.noConfusion h, fun h => absurd h.2 (by omega)⟩, rfl⟩
        · have h1' : ¬ (a : Int) < (a : Int) + (i : Int) := by omega
          go_wp2_with fail
          go_meet
          exact ⟨false, by simp <;> omega, ⟨fun h => Bool.noConfusion h, fun h => absurd h.1 h1⟩, rfl⟩
      case rest =>
      obtain ⟨qc, rfl, hqc, rfl⟩ := hcut
      have HQC := Lib.hid hqc
      obtain ⟨w3, hw3⟩ : ∃ w3, wc = w3 := ⟨_, rfl⟩
      rw [hw3] at HS1 ⊢
      clear hqc hw3
      go_upto_if 199 with fail
      go_cut [] from 200 to 205 (fun W' => Go.Proofs.SWK enc k w0 blk off (P ++ mg (Go.Proofs.ltOf cf) X1 Y1 ++ X2 ++ Y2 ++ S).toArray W')
      case first =>
        cases qc with
        | true =>
          have hq := HQC.out.1 rfl
          have hr := HIH.out w3 P X1 Y1 (X2 ++ (Y2 ++ S)) (by rw [HLX1.out, HLY1.out]; omega) (by rw [HLX1.out]; omega) (by rw [HLY1.out]; omega) (by rw [List.length_append, List.length_append, HA.out, HLX1.out, HLX2.out, HLY1.out, HLY2.out]; omega) HX1.out HY1.out (by have := HS1.out; simpa using this)
          rw [HA.out, HLX1.out, HLY1.out, show ((a + i : Nat) : Int) = (a : Int) + (i : Int) by omega, show ((a + i + j : Nat) : Int) = (a : Int) + (M : Int) by omega] at hr
          have HRT := Lib.hid hr
          clear hr hq
          go_wp2_with fail
          (with_reducible refine HRT.out.mono ?_)
          rintro _ w4 ⟨rfl, hs2⟩
          have HS2 := Lib.hid hs2
          clear hs2
          go_wp2_with fail
          go_meet
          have := HS2.out
          simpa using this
        | false =>
          have hE : X1 = [] ∨ Y1 = [] := by
            by_cases h1 : 0 < i
            · by_cases h2 : 0 < j
              · have := HQC.out.2 ⟨h1, h2⟩; cases this
              · exact .inr (List.eq_nil_of_length_eq_zero (by rw [HLY1.out]; omega))
            · exact .inl (List.eq_nil_of_length_eq_zero (by rw [HLX1.out]; omega))
          have HS2 : Hid (Go.Proofs.SWK enc k w0 blk off (P ++ mg (Go.Proofs.ltOf cf) X1 Y1 ++ X2 ++ Y2 ++ S).toArray w3) := Lib.hid (by
            rw [mg_if hE]
            have := HS1.out
            simpa using this)
          clear hE
          go_wp2_with fail
          go_meet
          exact HS2.out
      case rest =>
      have HS4 := Lib.hid hcut
      obtain ⟨w5, hw5⟩ : ∃ w5, wc = w5 := ⟨_, rfl⟩
      rw [hw5] at HS4 ⊢
      clear hcut hw5 HS1
      have HEND : Hid (P ++ mg (Go.Proofs.ltOf cf) X Y ++ S = P ++ mg (Go.Proofs.ltOf cf) X1 Y1 ++ mg (Go.Proofs.ltOf cf) X2 Y2 ++ S) := by show _ = _; rw [HMG.out]; simp
      have HLM : Hid ((mg (Go.Proofs.ltOf cf) X1 Y1).length = i + j) := by
        show _ = _
        rw [(mg_perm (Go.Proofs.ltOf cf) _ X1 Y1 rfl).length_eq, List.length_append, HLX1.out, HLY1.out]
      go_upto_region 43 with fail
      go_cut [213] from 206 to 213 (fun b W' => ∃ qb, b = .bool qb ∧ (qb = true ↔ (i < x ∧ j < y)) ∧ w5 = W')
      case first =>
        by_cases h1 : i < x
        · have h1' : (a : Int) + (M : Int) < (a : Int) + (x : Int) + (j : Int) := by omega
          by_cases h2 : j < y
          · have h2' : (a : Int) + (x : Int) + (j : Int) < (a : Int) + (x : Int) + (y : Int) := by omega
            go_wp2_with fail
            go_meet
            exact ⟨true, by simp <;> omega, ⟨fun _ => ⟨h1, h2⟩, fun _ => rfl⟩, rfl⟩
          · have h2' : ¬ (a : Int) + (x : Int) + (j : Int) < (a : Int) + (x : Int) + (y : Int) := by omega
            go_wp2_with fail
            go_meet
            exact ⟨false, by simp <;> omega, ⟨fun h => Bool.noConfusion h, fun h => absurd h.2 h2⟩, rfl⟩
        · have h1' : ¬ (a : Int) + (M : Int) < (a : Int) + (x : Int) + (j : Int) := by omega
          go_wp2_with fail
          go_meet
          exact ⟨false, by simp <;> omega, ⟨fun h => Bool.noConfusion h, fun h => absurd h.1 h1⟩, rfl⟩
      case rest =>
      obtain ⟨qd, rfl, hqd, rfl⟩ := hcut
      have HQD := Lib.hid hqd
      clear hqd
      cases qd with
      | true =>
        have hq := HQD.out.1 rfl
        have hr := HIH.out w5 (P ++ mg (Go.Proofs.ltOf cf) X1 Y1) X2 Y2 S (by rw [HLX2.out, HLY2.out]; omega) (by rw [HLX2.out]; omega) (by rw [HLY2.out]; omega) (by rw [List.length_append, HA.out, HLM.out, HLX2.out, HLY2.out]; omega) HX2.out HY2.out HS4.out
        rw [List.length_append, HA.out, HLM.out, HLX2.out, HLY2.out, show ((a + (i + j) : Nat) : Int) = (a : Int) + (M : Int) by omega, show ((a + (i + j) + (x - i) : Nat) : Int) = (a : Int) + (x : Int) + (j : Int) by omega, show ((a + (i + j) + (x - i) + (y - j) : Nat) : Int) = (a : Int) + (x : Int) + (y : Int) by omega] at hr
        have HRT := Lib.hid hr
        clear hr hq
        go_wp2_with fail
        (with_reducible refine HRT.out.mono ?_)
        rintro _ w6 ⟨rfl, hs2⟩
        have HS2 := Lib.hid hs2
        clear hs2
        go_wp2_with fail
        go_end0
        refine ⟨rfl, ?_⟩
        have h9 := HS2.out
        rw [← HEND.out] at h9
        simpa using h9
      | false =>
        have hE : X2 = [] ∨ Y2 = [] := by
          by_cases h1 : i < x
          · by_cases h2 : j < y
            · have := HQD.out.2 ⟨h1, h2⟩; cases this
            · exact .inr (List.eq_nil_of_length_eq_zero (by rw [HLY2.out]; omega))
          · exact .inl (List.eq_nil_of_length_eq_zero (by rw [HLX2.out]; omega))
        have HS2 : Hid (Go.Proofs.SWK enc k w0 blk off (P ++ mg (Go.Proofs.ltOf cf) X1 Y1 ++ mg (Go.Proofs.ltOf cf) X2 Y2 ++ S).toArray w5) := Lib.hid (by
          rw [mg_if hE]
          have := HS4.out
          simpa using this)
        clear hE
        go_wp2_with fail
        go_end0
        refine ⟨rfl, ?_⟩
        have h9 := HS2.out
        rw [← HEND.out] at h9
        simpa using h9
theorem sym_all (T : Nat) (hT : 69 = T) (aE : ∀ w, (isAgg T).run Tryz.prog w = .ok true w) (zE : ∀ w, (Go.sizeOf T).run Tryz.prog w = .ok k w) (hk0 : k = 6) (R : Go.Proofs.RowK enc k w0 blk off d0) (cap : Nat) (gf : Nat) (cf : α → α → Int) (hO : Go.Sort.SWO (Go.Proofs.ltOf cf))
    (eg : ∀ args w, (callFunc gf args).run Tryz.prog w = .ok (.enter gf args) w) (hC : Go.Proofs.CmpLays Tryz.prog gf #[] enc k cf blk off d0.size w0) (hsz : d0.size < 4611686018427387904) : ∀ n, SymOk enc k w0 blk off d0.size cap gf (Go.Proofs.ltOf cf) n
  | 0 => fun W P X Y S h hX _ _ _ _ _ => absurd h (by omega)
  | n + 1 => fun W P X Y S h hX hY hN hAX hAY hS => by
    by_cases h1 : X.length = 1
    · obtain ⟨x, rfl⟩ : ∃ x, X = [x] := by
        match X, h1 with
        | [x], _ => exact ⟨x, rfl⟩
      exact sym_one T hT aE zE hk0 R cap gf cf hO eg hC W P Y S x (by simpa using hN) hAY hS hsz
    · by_cases h2 : Y.length = 1
      · obtain ⟨y, rfl⟩ : ∃ y, Y = [y] := by
          match Y, h2 with
          | [y], _ => exact ⟨y, rfl⟩
        exact sym_last T hT aE zE hk0 R cap gf cf hO eg hC W P X S y (by simpa using hN) (by omega) hAX hS hsz
      · exact sym_more T hT aE zE hk0 R cap gf cf hO eg hC n (sym_all T hT aE zE hk0 R cap gf cf hO eg hC hsz n) W P X Y S h hN (by omega) (by omega) hAX hAY hS hsz
end
end Go.Proofs.YtoalecalahkblaaGreatDoor

set_option linter.all false
namespace Go.Proofs.YtoalecalahkblaaGreatDoor
open Go.RowKit
section
variable {α : Type} [Inhabited α] {enc : α → List Value} {k : Nat} {w0 : World} {blk off : Nat} {d0 : Array α}
theorem ins_sw (aE : ∀ w, (isAgg 69).run Tryz.prog w = .ok true w) (zE : ∀ w, (Go.sizeOf 69).run Tryz.prog w = .ok k w) (R : Go.Proofs.RowK enc k w0 blk off d0) (cap gf : Nat) (cf : α → α → Int) (hO : Go.Sort.SWO (Go.Proofs.ltOf cf))
    (eg : ∀ args w, (callFunc gf args).run Tryz.prog w = .ok (.enter gf args) w) (hC : ∀ W, Go.Proofs.CmpLays Tryz.prog gf #[] enc k cf blk off d0.size W) (hsz : d0.size < 4611686018427387904) (W : World) (P L S : List α)
    (hN : P.length + L.length + S.length = d0.size) (hS : Go.Proofs.SWK enc k w0 blk off (P ++ L ++ S).toArray W) :
    Calls Tryz.prog 148 #[.slice (some ⟨blk, off, none⟩) d0.size cap, .int .i64 P.length, .int .i64 ((P.length + L.length : Nat) : Int), .func (.func gf) #[] #[]] W fun e w' => e = .returned (.tuple #[]) ∧ Go.Proofs.SWK enc k w0 blk off (P ++ sortS (Go.Proofs.ltOf cf) L ++ S).toArray w' := by
  have hs : (P ++ L ++ S).toArray.size = d0.size := by simp; omega
  have h := Go.Proofs.AnyQ.insertionSortCmpFunc Tryz.insE k aE zE enc R.hk R.h1 cf gf #[] blk off cap P.length (P.length + L.length) (P ++ L ++ S).toArray W eg (by rw [hs]; exact hC W) (hS.holds R.hblk R.hH hs) (hS.lt R.hblk) (by omega) (by rw [hs]; omega) (by rw [hs]; exact hsz)
  rw [insertionSort_list hO, hs] at h
  refine Calls.mono (show Calls Tryz.prog 148 #[.slice (some ⟨blk, off, none⟩) d0.size cap, .int .i64 P.length, .int .i64 ((P.length + L.length : Nat) : Int), .func (.func gf) #[] #[]] W _ from h) ?_
  rintro e w' ⟨he, n, os, hw⟩
  refine ⟨he, ?_⟩
  rw [hw]
  exact hS.on R.hblk n _ os (by simp [(perm_sortS (lt := Go.Proofs.ltOf cf) L).length_eq])
set_option maxHeartbeats 8000000 in
set_option maxRecDepth 100000 in
theorem stable_sw (aE : ∀ w, (isAgg 69).run Tryz.prog w = .ok true w) (zE : ∀ w, (Go.sizeOf 69).run Tryz.prog w = .ok k w) (hk0 : k = 6) (R : Go.Proofs.RowK enc k w0 blk off d0) (cap gf : Nat) (cf : α → α → Int) (hO : Go.Sort.SWO (Go.Proofs.ltOf cf))
    (eg : ∀ args w, (callFunc gf args).run Tryz.prog w = .ok (.enter gf args) w) (hC : ∀ W, Go.Proofs.CmpLays Tryz.prog gf #[] enc k cf blk off d0.size W) (hsz : d0.size < 1152921504606846976) (W : World) (L : List α)
    (hN : L.length = d0.size) (hS : Go.Proofs.SWK enc k w0 blk off L.toArray W) :
    Calls Tryz.prog 104 #[.slice (some ⟨blk, off, none⟩) d0.size cap, .int .i64 d0.size, .func (.func gf) #[] #[]] W fun e w' => e = .returned (.tuple #[]) ∧ Go.Proofs.SWK enc k w0 blk off (sortS (Go.Proofs.ltOf cf) L).toArray w' := by
  have HINS := Lib.hid (fun (W' : World) (P' L' S' : List α) h1 h2 => ins_sw aE zE R cap gf cf hO eg hC (by omega) W' P' L' S' h1 h2)
  have HSYM := Lib.hid (fun n => sym_all 69 rfl aE zE hk0 R cap gf cf hO eg (hC w0) (by omega) n)
  have HST := Lib.hid hS
  have HOO := Lib.hid hO
  obtain ⟨lt, hlt⟩ : ∃ lt, Go.Proofs.ltOf cf = lt := ⟨_, rfl⟩
  rw [hlt] at HINS HSYM HOO ⊢
  obtain ⟨N, hNN⟩ : ∃ N, d0.size = N := ⟨_, rfl⟩
  rw [hNN] at HINS HSYM hN hsz ⊢
  have HN : Hid (L.length = N) := hN
  clear hS hC hNN hN R hk0 hO hlt aE zE eg
  go_enter Tryz.func104, Tryz.ntmps104
  go_wp2_with fail
  go_loopw [7, 8] (fun av bv wr => ∃ t : Nat, av = .int .i64 (t : Int) ∧ bv = .int .i64 ((t : Int) + 20) ∧ t ≤ N ∧ Hid (∃ q, t = q * 20) ∧ Hid (Go.Proofs.SWK enc k w0 blk off (blkRow lt 20 (L.take t) ++ L.drop t).toArray wr)) (fun av _ _ => N - (intOf av).toNat)
  case atStart => exact ⟨0, rfl, rfl, Nat.zero_le _, Lib.hid ⟨0, rfl⟩, Lib.hid (by rw [List.take_zero, blkRow_small lt (L := []) (by simp), List.drop_zero]; exact HST.out)⟩
  case round =>
    obtain ⟨t, rfl, rfl, htN, HT, HS⟩ := hrel
    obtain ⟨wo, hwo⟩ : ∃ wo, wr = wo := ⟨_, rfl⟩
    rw [hwo] at HS ⊢
    clear hwo HST
    by_cases hle : t + 20 ≤ N
    · have x1 : (t : Int) + 20 ≤ (N : Int) := by omega
      have hI := HINS.out wo (blkRow lt 20 (L.take t)) ((L.drop t).take 20) (L.drop (t + 20)) (by rw [blkRow_len, List.length_take, List.length_take, List.length_drop, List.length_drop, HN.out]; omega) (by
        have := HS.out
        rw [List.append_assoc, show L.drop (t + 20) = (L.drop t).drop 20 by rw [List.drop_drop], List.take_append_drop]
        exact this)
      have e1 : (blkRow lt 20 (L.take t)).length = t := by rw [blkRow_len, List.length_take, HN.out]; omega
      have e2 : ((L.drop t).take 20).length = 20 := by rw [List.length_take, List.length_drop, HN.out]; omega
      rw [e1, e2, show ((t + 20 : Nat) : Int) = (t : Int) + 20 by omega] at hI
      have HI := Lib.hid hI
      have HNEW : Hid (blkRow lt 20 (L.take t) ++ sortS lt ((L.drop t).take 20) ++ L.drop (t + 20) = blkRow lt 20 (L.take (t + 20)) ++ L.drop (t + 20)) := by
        show _ = _
        obtain ⟨q, hq⟩ := HT.out
        congr 1
        rw [List.take_add, blkRow_append lt (by omega) q _ _ (by rw [List.length_take, HN.out]; omega), blkRow_small lt (L := (L.drop t).take 20) (by rw [List.length_take]; omega)]
      clear hI e1 e2
      go_wp2_with fail
      (with_reducible refine HI.out.mono ?_)
      rintro _ w2 ⟨rfl, hs2⟩
      have HS2 := Lib.hid hs2
      clear hs2
      go_wp2_with fail
      go_roundw
      case rel => exact ⟨t + 20, by go_num, by go_num, hle, Lib.hid (by obtain ⟨q, hq⟩ := HT.out; exact ⟨q + 1, by omega⟩), Lib.hid (by rw [← HNEW.out]; exact HS2.out)⟩
      case measure => simp [intOf]; omega
    · have x1 : ¬ (t : Int) + 20 ≤ (N : Int) := by omega
      have hI := HINS.out wo (blkRow lt 20 (L.take t)) (L.drop t) [] (by rw [blkRow_len, List.length_take, List.length_drop, HN.out]; simp; omega) (by rw [List.append_nil]; exact HS.out)
      have e1 : (blkRow lt 20 (L.take t)).length = t := by rw [blkRow_len, List.length_take, HN.out]; omega
      have e2 : ((t + (L.drop t).length : Nat) : Int) = (N : Int) := by rw [List.length_drop, HN.out]; omega
      rw [e1, e2, List.append_nil] at hI
      have HI := Lib.hid hI
      have HNEW : Hid (blkRow lt 20 (L.take t) ++ sortS lt (L.drop t) = blkRow lt 20 L) := by
        show _ = _
        obtain ⟨q, hq⟩ := HT.out
        have h1 := blkRow_append lt (b := 20) (by omega) q (L.take t) (L.drop t) (by rw [List.length_take, HN.out]; omega)
        rw [List.take_append_drop] at h1
        rw [h1, blkRow_small lt (L := L.drop t) (by rw [List.length_drop, HN.out]; omega)]
      clear hI e1 e2
      go_wp2_with fail
      (with_reducible refine HI.out.mono ?_)
      rintro _ w2 ⟨rfl, hs2⟩
      have HS2 : Hid (Go.Proofs.SWK enc k w0 blk off (blkRow lt 20 L).toArray w2) := Lib.hid (by rw [← HNEW.out]; exact hs2)
      clear hs2 HI HNEW HS HT hle x1
      go_wp2_with fail
      go_loopw [6] (fun bv wr => ∃ b : Nat, bv = .int .i64 (b : Int) ∧ 0 < b ∧ b < 2 * N + 40 ∧ Hid (Go.Proofs.SWK enc k w0 blk off (blkRow lt b L).toArray wr)) (fun bv _ => N - (intOf bv).toNat)
      case atStart => exact ⟨20, by go_num, by omega, by omega, HS2⟩
      case round =>
        obtain ⟨b, rfl, hb0, hbN, HSb⟩ := hrel
        obtain ⟨w3, hw3⟩ : ∃ w3, wr = w3 := ⟨_, rfl⟩
        rw [hw3] at HSb ⊢
        clear hw3 HS2
        by_cases hbl : b < N
        · have HS0 : Hid (Go.Proofs.SWK enc k w0 blk off (midRow lt b 0 L).toArray w3) := Lib.hid (by rw [midRow_zero]; exact HSb.out)
          clear HSb
          go_wp2_with fail
          go_loopw [7, 8] (fun av cv wr => ∃ c : Nat, av = .int .i64 (c : Int) ∧ cv = .int .i64 ((c : Int) + 2 * (b : Int)) ∧ c ≤ N ∧ Hid (∃ q, c = q * (2 * b)) ∧ Hid (Go.Proofs.SWK enc k w0 blk off (midRow lt b c L).toArray wr)) (fun av _ _ => N - (intOf av).toNat)
          case atStart => exact ⟨0, rfl, by go_num, Nat.zero_le _, Lib.hid ⟨0, by omega⟩, HS0⟩
          case round =>
            obtain ⟨c, rfl, rfl, hcN, HQ, HSc⟩ := hrel
            obtain ⟨w4, hw4⟩ : ∃ w4, wr = w4 := ⟨_, rfl⟩
            rw [hw4] at HSc ⊢
            clear hw4 HS0
            by_cases hc2 : c + 2 * b ≤ N
            · have x1 : (c : Int) + 2 * (b : Int) ≤ (N : Int) := by omega
              have hstep := fun q (hq : c = q * (2 * b)) => midRow_step HOO.out (b := b) (a := c) (k := q) (L := L) hb0 hq (by rw [HN.out]; exact hc2)
              have HSTEP : Hid (midRow lt b c L = blkRow lt (2 * b) (L.take c) ++ sortS lt ((L.drop c).take b) ++ sortS lt ((L.drop (c + b)).take b) ++ blkRow lt b (L.drop (c + 2 * b)) ∧ blkRow lt (2 * b) (L.take c) ++ mg lt (sortS lt ((L.drop c).take b)) (sortS lt ((L.drop (c + b)).take b)) ++ blkRow lt b (L.drop (c + 2 * b)) = midRow lt b (c + 2 * b) L) := by
                obtain ⟨q, hq⟩ := HQ.out
                exact hstep q hq
              have l1 : (blkRow lt (2 * b) (L.take c)).length = c := by rw [blkRow_len, List.length_take, HN.out]; omega
              have l2 : (sortS lt ((L.drop c).take b)).length = b := by rw [sortS_len, List.length_take, List.length_drop, HN.out]; omega
              have l3 : (sortS lt ((L.drop (c + b)).take b)).length = b := by rw [sortS_len, List.length_take, List.length_drop, HN.out]; omega
              have l4 : (blkRow lt b (L.drop (c + 2 * b))).length = N - (c + 2 * b) := by rw [blkRow_len, List.length_drop, HN.out]
              have hy := HSYM.out (2 * b) w4 (blkRow lt (2 * b) (L.take c)) (sortS lt ((L.drop c).take b)) (sortS lt ((L.drop (c + b)).take b)) (blkRow lt b (L.drop (c + 2 * b))) (by omega) (by omega) (by omega) (by omega) (asc_sortS HOO.out _) (asc_sortS HOO.out _) (by have := HSc.out; rw [HSTEP.out.1] at this; exact this)
              rw [l1, l2, l3, show ((c + b : Nat) : Int) = (c : Int) + (b : Int) by omega, show ((c + b + b : Nat) : Int) = (c : Int) + 2 * (b : Int) by omega, HSTEP.out.2] at hy
              have HY := Lib.hid hy
              clear hy l1 l2 l3 l4 hstep
              go_wp2_with fail
              (with_reducible refine HY.out.mono ?_)
              rintro _ w5 ⟨rfl, hs5⟩
              have HS5 := Lib.hid hs5
              clear hs5
              go_wp2_with fail
              go_roundw
              case rel => exact ⟨c + 2 * b, by go_num, by go_num, hc2, Lib.hid (by obtain ⟨q, hq⟩ := HQ.out; exact ⟨q + 1, by rw [Nat.add_mul, Nat.one_mul, ← hq]⟩), HS5⟩
              case measure => simp [intOf]; omega
            · have x1 : ¬ (c : Int) + 2 * (b : Int) ≤ (N : Int) := by omega
              by_cases hm : c + b < N
              · have x2 : (c : Int) + (b : Int) < (N : Int) := by omega
                have hlast := fun q (hq : c = q * (2 * b)) => midRow_last HOO.out (b := b) (a := c) (k := q) (L := L) hb0 hq (by rw [HN.out]; exact hm) (by rw [HN.out]; omega)
                have HLAST : Hid (midRow lt b c L = blkRow lt (2 * b) (L.take c) ++ sortS lt ((L.drop c).take b) ++ sortS lt (L.drop (c + b)) ∧ blkRow lt (2 * b) (L.take c) ++ mg lt (sortS lt ((L.drop c).take b)) (sortS lt (L.drop (c + b))) = blkRow lt (2 * b) L) := by
                  obtain ⟨q, hq⟩ := HQ.out
                  exact hlast q hq
                have l1 : (blkRow lt (2 * b) (L.take c)).length = c := by rw [blkRow_len, List.length_take, HN.out]; omega
                have l2 : (sortS lt ((L.drop c).take b)).length = b := by rw [sortS_len, List.length_take, List.length_drop, HN.out]; omega
                have l3 : (sortS lt (L.drop (c + b))).length = N - (c + b) := by rw [sortS_len, List.length_drop, HN.out]
                have hy := HSYM.out N w4 (blkRow lt (2 * b) (L.take c)) (sortS lt ((L.drop c).take b)) (sortS lt (L.drop (c + b))) [] (by omega) (by omega) (by omega) (by simp; omega) (asc_sortS HOO.out _) (asc_sortS HOO.out _) (by have := HSc.out; rw [HLAST.out.1] at this; simpa using this)
                rw [l1, l2, l3, show ((c + b : Nat) : Int) = (c : Int) + (b : Int) by omega, show ((c + b + (N - (c + b)) : Nat) : Int) = (N : Int) by omega, List.append_nil, HLAST.out.2] at hy
                have HY := Lib.hid hy
                clear hy l1 l2 l3 hlast
                go_wp2_with fail
                (with_reducible refine HY.out.mono ?_)
                rintro _ w5 ⟨rfl, hs5⟩
                have HS5 := Lib.hid hs5
                clear hs5
                go_wp2_with fail
                go_roundw
                case rel => exact ⟨2 * b, by go_num, by omega, by omega, HS5⟩
                case measure => simp [intOf]; omega
              · have x2 : ¬ (c : Int) + (b : Int) < (N : Int) := by omega
                have HEND : Hid (midRow lt b c L = blkRow lt (2 * b) L) := by
                  obtain ⟨q, hq⟩ := HQ.out
                  exact midRow_end lt hb0 hq (by rw [HN.out]; exact hcN) (by rw [HN.out]; omega)
                have HS5 : Hid (Go.Proofs.SWK enc k w0 blk off (blkRow lt (2 * b) L).toArray w4) := Lib.hid (by rw [← HEND.out]; exact HSc.out)
                clear HEND
                go_wp2_with fail
                go_roundw
                case rel => exact ⟨2 * b, by go_num, by omega, by omega, HS5⟩
                case measure => simp [intOf]; omega
        · have x1 : ¬ (b : Int) < (N : Int) := by omega
          have HS5 : Hid (Go.Proofs.SWK enc k w0 blk off (sortS lt L).toArray w3) := Lib.hid (by rw [← blkRow_small lt (b := b) (L := L) (by rw [HN.out]; omega)]; exact HSb.out)
          go_wp2_with fail
          go_end0
          exact ⟨rfl, HS5.out⟩
theorem sortStable_sw (aE : ∀ w, (isAgg 69).run Tryz.prog w = .ok true w) (zE : ∀ w, (Go.sizeOf 69).run Tryz.prog w = .ok k w) (hk0 : k = 6) (R : Go.Proofs.RowK enc k w0 blk off d0) (cap gf : Nat) (cf : α → α → Int) (hO : Go.Sort.SWO (Go.Proofs.ltOf cf))
    (eg : ∀ args w, (callFunc gf args).run Tryz.prog w = .ok (.enter gf args) w) (hC : ∀ W, Go.Proofs.CmpLays Tryz.prog gf #[] enc k cf blk off d0.size W) (hsz : d0.size < 1152921504606846976) (W : World) (L : List α)
    (hN : L.length = d0.size) (hS : Go.Proofs.SWK enc k w0 blk off L.toArray W) :
    Calls Tryz.prog 55 #[.slice (some ⟨blk, off, none⟩) d0.size cap, .func (.func gf) #[] #[]] W fun e w' => e = .returned (.tuple #[]) ∧ Go.Proofs.SWK enc k w0 blk off (sortS (Go.Proofs.ltOf cf) L).toArray w' := by
  have HST := Lib.hid (stable_sw aE zE hk0 R cap gf cf hO eg hC hsz W L hN hS)
  obtain ⟨N, hNN⟩ : ∃ N, d0.size = N := ⟨_, rfl⟩
  rw [hNN] at HST ⊢
  clear R hO hC hsz hN hS hNN
  go_enter Tryz.func55, Tryz.ntmps55
  go_wp2_with fail
  (with_reducible refine HST.out.mono ?_)
  rintro e w1 ⟨rfl, hs⟩
  have HS := Lib.hid hs
  clear hs
  go_wp2_with fail
  go_end0
  exact ⟨rfl, HS.out⟩
end
end Go.Proofs.YtoalecalahkblaaGreatDoor

set_option linter.all false
namespace Go.Proofs.YtoalecalahkblaaGreatDoor
open Go.RowKit
abbrev EvS := Ev × Option Addr × Nat × Nat
def evS (p : EvS) : List Value := [.string p.1.cas, .string p.1.act, .string p.1.res, .int .i64 p.1.life, .int .i64 p.1.time, .slice p.2.1 p.2.2.1 p.2.2.2]
theorem evS_one (p : EvS) : ∀ v ∈ evS p, v.oneCell' = true := fun v hv => by
  simp [evS] at hv
  rcases hv with rfl | rfl | rfl | rfl | rfl | rfl <;> rfl
def slt (x y : EvS) : Bool := decide (x.1.time < y.1.time)
theorem swo_slt : Go.Sort.SWO slt := by
  refine ⟨fun x => ?_, fun x y z => ?_, fun x y z => ?_⟩ <;> unfold slt
  · simp
  · simp only [decide_eq_true_eq]; omega
  · simp only [decide_eq_false_iff_not]; omega
theorem ltOf_slt : (Go.Proofs.ltOf fun x y : EvS => Lib.compareInt x.1.time y.1.time) = slt := by
  funext x y
  unfold slt
  show decide ((if x.1.time < y.1.time then (-1 : Int) else if x.1.time > y.1.time then 1 else 0) < 0) = _
  by_cases h : x.1.time < y.1.time
  · rw [if_pos h, decide_eq_true h]; rfl
  · rw [if_neg h, decide_eq_false h]
    by_cases h2 : x.1.time > y.1.time
    · rw [if_pos h2]; rfl
    · rw [if_neg h2]; rfl
theorem mg_map {α β : Type} (f : α → β) (lt : α → α → Bool) (lt' : β → β → Bool) (h : ∀ x y, lt' (f x) (f y) = lt x y) : ∀ X Y : List α, (mg lt X Y).map f = mg lt' (X.map f) (Y.map f)
  | [], Y => by simp [mg]
  | x :: X, [] => by simp [mg]
  | x :: X, y :: Y => by
    simp only [List.map_cons]
    unfold mg
    rw [h]
    split
    · rw [List.map_cons, mg_map f lt lt' h (x :: X) Y]; rfl
    · rw [List.map_cons, mg_map f lt lt' h X (y :: Y)]; rfl
termination_by X Y => X.length + Y.length
theorem sortS_map {α β : Type} (f : α → β) (lt : α → α → Bool) (lt' : β → β → Bool) (h : ∀ x y, lt' (f x) (f y) = lt x y) (L : List α) : (sortS lt L).map f = sortS lt' (L.map f) := by
  unfold sortS
  suffices H : ∀ (L X : List α), (L.foldl (insL lt) X).map f = (L.map f).foldl (insL lt') (X.map f) from H L []
  intro L
  induction L with
  | nil => intro X; rfl
  | cons y L ih =>
    intro X
    rw [List.foldl_cons, ih, List.map_cons, List.foldl_cons]
    unfold insL
    rw [mg_map f lt lt' h]
    rfl
theorem evCmpS_any (x y : EvS) (W : World) :
    Calls Tryz.prog 56 #[.agg (evS x).toArray, .agg (evS y).toArray] W fun e w' => e = .returned (.int .i64 (Lib.compareInt x.1.time y.1.time)) ∧ ∃ q os', w' = Go.Sort.grow (W.drewN q) os' := by
  obtain ⟨x, xA, xn, xc⟩ := x
  obtain ⟨y, yA, yn, yc⟩ := y
  have hb1 := bone W (.cells (evS (x, xA, xn, xc)).toArray 69)
  have hb2 := bone (W.alloc (.cells (evS (x, xA, xn, xc)).toArray 69)) (.cells (evS (y, yA, yn, yc)).toArray 69)
  unfold evS at hb1 hb2 ⊢
  dsimp only at hb1 hb2 ⊢
  have HX := Lib.hid ((Blk.new W 69 #[.string x.cas, .string x.act, .string x.res, .int .i64 x.life, .int .i64 x.time, .slice xA xn xc]).now hb2)
  have HY := Lib.hid (Blk.new (W.alloc (.cells #[.string x.cas, .string x.act, .string x.res, .int .i64 x.life, .int .i64 x.time, .slice xA xn xc] 69)) 69 #[.string y.cas, .string y.act, .string y.res, .int .i64 y.life, .int .i64 y.time, .slice yA yn yc])
  have hsz1 : (W.alloc (.cells #[.string x.cas, .string x.act, .string x.res, .int .i64 x.life, .int .i64 x.time, .slice xA xn xc] 69)).heap.size = W.heap.size + 1 := by simp
  rw [hsz1] at HY
  have HG : Hid (∃ q os', (W.alloc (.cells #[.string x.cas, .string x.act, .string x.res, .int .i64 x.life, .int .i64 x.time, .slice xA xn xc] 69)).alloc (.cells #[.string y.cas, .string y.act, .string y.res, .int .i64 y.life, .int .i64 y.time, .slice yA yn yc] 69) = Go.Sort.grow (W.drewN q) os') := Lib.hid ⟨0, _, by rw [Go.Sort.alloc_eq_grow, Go.Sort.alloc_eq_grow, Go.Sort.grow_grow]; rfl⟩
  have HC := Lib.hid (Tryz.cmp_Compare_int x.time y.time)
  clear hb1 hb2 hsz1
  go_enter Tryz.func56, Tryz.ntmps56
  go_upto_region 1 with fail
  obtain ⟨w2, hw2⟩ : ∃ w2, (W.alloc (.cells #[.string x.cas, .string x.act, .string x.res, .int .i64 x.life, .int .i64 x.time, .slice xA xn xc] 69)).alloc (.cells #[.string y.cas, .string y.act, .string y.res, .int .i64 y.life, .int .i64 y.time, .slice yA yn yc] 69) = w2 := ⟨_, rfl⟩
  rw [hw2] at HX HY HG ⊢
  clear hw2
  obtain ⟨a0, a1, a2, a3, a4, a5⟩ := HX.out.c6
  obtain ⟨b0, b1, b2, b3, b4, b5⟩ := HY.out.c6
  go_wp2_with fail
  (with_reducible refine (HC.out _).mono ?_)
  rintro e w' ⟨rfl, rfl⟩
  go_wp2_with fail
  go_ret
  exact ⟨rfl, HG.out⟩
theorem evs_of {X : Nat → Prop} {w : World} {base t : Nat} {v : Value} {L : List Ev} (h : OwnR 6 REv X w base t v L) :
    ∃ P : List EvS, P.map (·.1) = L ∧ OwnW 6 evS w base t v P ∧ ∀ p ∈ P, FitEv p.1 ∧ SlFl (Off X w v) w (.slice p.2.1 p.2.2.1 p.2.2.2) p.1.data := by
  obtain ⟨cs, ho, he⟩ := h
  have H : ∀ i : Fin L.length, ∃ p : EvS, p.1 = L[i.1] ∧ (∀ j u, (evS p)[j]? = some u → cs[i.1 * 6 + j]? = some u) ∧ FitEv p.1 ∧ SlFl (Off X w v) w (.slice p.2.1 p.2.2.1 p.2.2.2) p.1.data := fun i => by
    obtain ⟨es, h1, h2, dv, rfl, h4, h5⟩ := he i.1 _ (List.getElem?_eq_getElem i.2)
    obtain ⟨A, c, rfl, _⟩ := h5.open_
    exact ⟨(L[i.1], A, _, c), rfl, h2, h4, h5⟩
  let f : Fin L.length → EvS := fun i => Classical.choose (H i)
  have hf : ∀ i, (f i).1 = L[i.1] ∧ (∀ j u, (evS (f i))[j]? = some u → cs[i.1 * 6 + j]? = some u) ∧ FitEv (f i).1 ∧ SlFl (Off X w v) w (.slice (f i).2.1 (f i).2.2.1 (f i).2.2.2) (f i).1.data := fun i => Classical.choose_spec (H i)
  have hl : (List.ofFn f).length = L.length := List.length_ofFn
  have hat : ∀ i (hi : i < L.length), (List.ofFn f)[i]? = some (f ⟨i, hi⟩) := fun i hi => by
    rw [List.getElem?_eq_getElem (by rw [hl]; exact hi), List.getElem_ofFn]
  have hcs : cs.length = L.length * 6 := ho.1
  have hflat : flat evS (List.ofFn f) = cs := by
    apply List.ext_getElem
    · rw [flat_len (size := 6) (fun _ => rfl), hl, hcs]
    · intro j h1 h2
      obtain ⟨i, r, x, rfl, hr, hx, hu⟩ := flat_at (size := 6) (fc := evS) (fun _ => rfl) (by decide) (List.ofFn f) (List.getElem?_eq_getElem h1)
      have hi : i < L.length := by have := (List.getElem?_eq_some_iff.1 hx).1; omega
      rw [hat i hi] at hx
      injection hx with hx
      subst hx
      have := (hf ⟨i, hi⟩).2.1 r _ hu
      rw [List.getElem?_eq_getElem h2] at this
      injection this with this
      exact this.symm
  refine ⟨List.ofFn f, ?_, ?_, fun p hp => ?_⟩
  · apply List.ext_getElem
    · rw [List.length_map, hl]
    · intro i h1 h2
      rw [List.getElem_map, List.getElem_ofFn]
      exact (hf ⟨i, h2⟩).1
  · unfold OwnW
    rw [hl, hflat]
    exact ho
  · obtain ⟨i, rfl⟩ := List.mem_ofFn.1 hp
    exact (hf i).2.2
theorem of_evs {X : Nat → Prop} {w : World} {base t : Nat} {v : Value} {P : List EvS} (h : OwnW 6 evS w base t v P) (he : ∀ p ∈ P, FitEv p.1 ∧ SlFl (Off X w v) w (.slice p.2.1 p.2.2.1 p.2.2.2) p.1.data) : OwnR 6 REv X w base t v (P.map (·.1)) := by
  refine ⟨flat evS P, by rw [List.length_map]; exact h, fun i x hx => ?_⟩
  rw [List.getElem?_map] at hx
  cases hp : P[i]? with
  | none => rw [hp] at hx; cases hx
  | some p =>
    rw [hp] at hx
    injection hx with hx
    subst hx
    obtain ⟨h1, h2⟩ := he p (List.mem_of_getElem? hp)
    exact ⟨evS p, rfl, fun j u hu => by rw [flat_get (size := 6) (fun _ => rfl) P i j p hp (by have := (List.getElem?_eq_some_iff.1 hu).1; exact this)]; exact hu, _, rfl, h1, h2⟩
theorem stableR_any {X : Nat → Prop} {w : World} {base g cap : Nat} {L : List Ev} (ho : OwnR 6 REv X w base 69 (.slice (some ⟨g, 0, none⟩) L.length cap) L) (h0 : 0 < L.length) (hl : L.length ≤ 1000000) :
    Calls Tryz.prog 55 #[.slice (some ⟨g, 0, none⟩) L.length cap, .func (.func 56) #[] #[]] w fun e w' => e = .returned (.tuple #[]) ∧ OwnR 6 REv X w' base 69 (.slice (some ⟨g, 0, none⟩) L.length cap) (sortS tlt L) ∧ w.grownBy w' (some g) := by
  obtain ⟨P, hP, ho, he⟩ := evs_of ho
  have hPl : P.length = L.length := by rw [← hP, List.length_map]
  rw [← hPl] at ho he h0 hl ⊢
  rw [← hP]
  rcases ho.2 with ⟨_, h1⟩ | ⟨g', cap', cur, hv, hb, hg, hc1, hc2, hc3, htk⟩
  · omega
  injection hv with he1 _ he2
  injection he1 with he1
  injection he1 with he1 _ _
  subst he1 he2
  have hgl : g < w.heap.size := (Array.getElem?_eq_some_iff.1 hg).1
  haveI : Inhabited EvS := ⟨P[0]'h0⟩
  have hF : (Go.Sort.flatK evS 6 P.toArray).toList = flat evS P := by
    have := flatK_eq (k := 6) evS evS (fun x : EvS => x) (fun _ => rfl) (fun _ => rfl) P.toArray
    rw [this, List.map_id']
  have hfl : (flat evS P).length = P.length * 6 := flat_len (size := 6) (fun _ => rfl) P
  have hH : Go.Sort.HoldsK evS 6 w g 0 P.toArray := by
    intro j hj
    have hjs : j < P.length * 6 := by rw [← hfl, ← hF, Array.length_toList]; exact hj
    refine ⟨?_, by simp [World.frozen?, hg]⟩
    have h1 : (cur.toList.take (P.length * 6))[j]? = (flat evS P)[j]? := by rw [htk]
    rw [List.getElem?_take_of_lt (by omega), ← hF] at h1
    simp only [World.cell?, hg, Nat.zero_add, Option.isSome_none, Bool.false_eq_true, if_false]
    rw [← Array.getElem?_toList, h1, Array.getElem?_toList, Array.getElem?_eq_getElem hj, getElem!_pos _ j hj]; rfl
  have hR : Go.Proofs.RowK evS 6 w g 0 P.toArray := ⟨fun _ => rfl, evS_one, hH, hgl⟩
  have h := sortStable_sw Tryz.isAgg69 Tryz.sizeOf69 rfl hR cap 56 (fun x y : EvS => Lib.compareInt x.1.time y.1.time) (by rw [ltOf_slt]; exact swo_slt) enters_evCmp (fun W m os dk hdk x y => evCmpS_any x y _) (by show P.length < _; omega) w P (by simp) (Go.Proofs.SWK.start hH)
  rw [ltOf_slt] at h
  have hsl : (sortS slt P).length = P.length := (perm_sortS (lt := slt) P).length_eq
  refine Calls.mono (show Calls Tryz.prog 55 #[.slice (some ⟨g, 0, none⟩) P.length cap, .func (.func 56) #[] #[]] w _ from h) fun e w' ⟨he1, n, os, hw⟩ => ?_
  have hgr : w.grownBy w' (some g) := by rw [hw]; exact grown_sorted evS 6 w g n _ os
  refine ⟨he1, ?_, hgr⟩
  rw [← sortS_map (fun p : EvS => p.1) slt tlt (fun _ _ => rfl)]
  obtain ⟨S, hS⟩ : ∃ S, sortS slt P = S := ⟨_, rfl⟩
  have hmem : ∀ p ∈ S, p ∈ P := fun p hp => by rw [← hS] at hp; exact (perm_sortS (lt := slt) P).mem_iff.1 hp
  rw [hS] at hsl hw ⊢
  have hF2 : (Go.Sort.flatK evS 6 S.toArray).toList = flat evS S := by
    have := flatK_eq (k := 6) evS evS (fun x : EvS => x) (fun _ => rfl) (fun _ => rfl) S.toArray
    rw [this, List.map_id']
  have hfl2 : (flat evS S).length = S.length * 6 := flat_len (size := 6) (fun _ => rfl) S
  have how : OwnW 6 evS w' base 69 (.slice (some ⟨g, 0, none⟩) P.length cap) S := by
    rw [← hsl]
    refine ⟨hfl2, .inr ⟨g, cap, _, rfl, hb, by rw [hw]; exact heap_sortedK evS 6 w g n S.toArray os hg, by rw [hsl]; exact hc1, hc2, by simp [Go.Sort.putCells, hc3], ?_⟩⟩
    have e1 : S.length * 6 = (Go.Sort.flatK evS 6 S.toArray).size := by rw [Go.Sort.size_flatK]; rfl
    rw [e1, take_put cur _ (by rw [Go.Sort.size_flatK, hc3]; show S.length * 6 ≤ _; omega), hF2]
  refine of_evs how fun p hp => ?_
  obtain ⟨h1, h2⟩ := he p (hmem p hp)
  refine ⟨h1, Sl.keep h2 RFld.kept (fun b hb => ⟨Nat.lt_of_lt_of_le hb.1 hgr.size, hb.2⟩) (fun b hb => hgr.block b hb.1 (fun e => hb.2.1 e.symm))⟩
theorem ins_none (w : World) (fv : Value) : Calls Tryz.prog 148 #[.slice none 0 0, .int .i64 0, .int .i64 0, fv] w fun e w' => e = .returned (.tuple #[]) ∧ w = w' := by
  go_enter Tryz.func148, Tryz.ntmps148
  go_wp2_with fail
  go_loopw [8] (fun a wr => a = .int .i64 1 ∧ w = wr) (fun _ _ => 0)
  case atStart => exact ⟨rfl, rfl⟩
  case round =>
    obtain ⟨rfl, rfl⟩ := hrel
    go_wp2_with fail
    go_end0
    exact ⟨rfl, rfl⟩
set_option maxHeartbeats 2000000 in
theorem stable_none (w : World) : Calls Tryz.prog 55 #[.slice none 0 0, .func (.func 56) #[] #[]] w fun e w' => e = .returned (.tuple #[]) ∧ w = w' := by
  have HI := Lib.hid (fun W => ins_none W (.func (.func 56) #[] #[]))
  have HST : Hid (Calls Tryz.prog 104 #[.slice none 0 0, .int .i64 0, .func (.func 56) #[] #[]] w fun e w' => e = .returned (.tuple #[]) ∧ w = w') := by
    show Calls _ _ _ _ _
    go_enter Tryz.func104, Tryz.ntmps104
    go_wp2_with fail
    go_loopw [7, 8] (fun a b wr => a = .int .i64 0 ∧ b = .int .i64 20 ∧ w = wr) (fun _ _ _ => 0)
    case atStart => exact ⟨rfl, rfl, rfl⟩
    case round =>
      obtain ⟨rfl, rfl, rfl⟩ := hrel
      go_wp2_with fail
      (with_reducible refine (HI.out _).mono ?_)
      rintro e w1 ⟨rfl, rfl⟩
      go_wp2_with fail
      go_loopw [6] (fun a wr => a = .int .i64 20 ∧ w = wr) (fun _ _ => 0)
      case atStart => exact ⟨rfl, rfl⟩
      case round =>
        obtain ⟨rfl, rfl⟩ := hrel
        go_wp2_with fail
        go_end0
        exact ⟨rfl, rfl⟩
  go_enter Tryz.func55, Tryz.ntmps55
  go_wp2_with fail
  (with_reducible refine HST.out.mono ?_)
  rintro e w1 ⟨rfl, rfl⟩
  go_wp2_with fail
  go_end0
  exact ⟨rfl, rfl⟩
end Go.Proofs.YtoalecalahkblaaGreatDoor

set_option linter.all false
namespace Go.Proofs.YtoalecalahkblaaGreatDoor
open Go.RowKit
def impRows (hd : List Bt) (m : Mp) : Nat → List Ev → List (List Bt) → List Ev × (Int × Int) × Int
  | _, acc, [] => (acc, (0, 0), 0)
  | i, acc, r :: rs =>
    if r.length ≠ hd.length then ([], ((i : Int) + 2, 1), 29) else
    if (evE r hd m).2.2 = 0 then impRows hd m (i + 1) (acc ++ [(evE r hd m).1]) rs else ([], ((i : Int) + 2, (evE r hd m).2.1 + 1), (evE r hd m).2.2)
def impT (m : Mp) : List (List Bt) → List Ev × (Int × Int) × Int
  | [] => ([], (0, 0), 4)
  | hd :: rs => if (headE hd m).2 = 0 then (sortS tlt (impRows hd m 0 [] rs).1, (impRows hd m 0 [] rs).2) else ([], (headE hd m).1, (headE hd m).2)
def impE (s : Bt) (m : Mp) : List Ev × (Int × Int) × Int :=
  if mapB m = true then
    if (cellsE m.sep s).2.2 = 0 then impT m (cellsE m.sep s).1 else ([], (cellsE m.sep s).2.1, (cellsE m.sep s).2.2)
  else ([], (0, 0), 1)
theorem quotedR_le {sep : UInt8} : ∀ (n : Nat) (t acc b rest : Bt), t.length ≤ n → quotedR sep acc t = .ok b rest → b.length + rest.length ≤ acc.length + t.length
  | _, [], acc, b, rest, _, h => by unfold quotedR at h; cases h
  | 0, c :: r, acc, b, rest, hn, h => by simp at hn
  | n + 1, c :: r, acc, b, rest, hn, h => by
    have hn' : r.length ≤ n := by simpa using hn
    unfold quotedR at h
    by_cases h1 : printB c = false
    · rw [if_pos h1] at h; cases h
    rw [if_neg h1] at h
    by_cases h2 : c = 34
    · rw [if_pos h2] at h
      cases r with
      | nil => injection h with h3 h4; subst h3 h4; simp
      | cons d r' =>
        dsimp only at h
        by_cases h3 : d = 34
        · rw [if_pos h3] at h
          have := quotedR_le n r' (acc ++ [34]) b rest (by simp at hn'; omega) h
          simp at this ⊢; omega
        · rw [if_neg h3] at h
          by_cases h4 : endsB sep (d :: r') = true
          · rw [if_pos h4] at h; injection h with h5 h6; subst h5 h6; simp
          · rw [if_neg h4] at h; cases h
    · rw [if_neg h2] at h
      have := quotedR_le n r (acc ++ [c]) b rest hn' h
      simp at this ⊢; omega
theorem plainR_le {sep : UInt8} : ∀ (t acc b rest : Bt), plainR sep acc t = .ok b rest → b.length + rest.length ≤ acc.length + t.length
  | [], acc, b, rest, h => by unfold plainR at h; injection h with h1 h2; subst h1 h2; simp
  | c :: r, acc, b, rest, h => by
    unfold plainR at h
    by_cases h1 : c = 10 ∨ c = sep
    · rw [if_pos h1] at h; injection h with h1 h2; subst h1 h2; simp
    rw [if_neg h1] at h
    by_cases h2 : printB c = false ∨ c = 34
    · rw [if_pos h2] at h; cases h
    rw [if_neg h2] at h
    have := plainR_le r (acc ++ [c]) b rest h
    simp at this ⊢; omega
theorem cellR_le {sep : UInt8} {t b rest : Bt} (h : cellR sep t = .ok b rest) : b.length + rest.length ≤ t.length := by
  unfold cellR at h
  split at h
  · have := quotedR_le _ _ [] b rest (Nat.le_refl _) h
    simp at this ⊢; omega
  · have := plainR_le _ [] b rest h
    simpa using this
theorem rowR_le {sep : UInt8} {M : Nat} : ∀ (n : Nat) (acc : List Bt) (t : Bt) (r : List Bt) (rest : Bt), (∀ c ∈ acc, c.length ≤ M) → t.length ≤ M → rowR sep n acc t = .ok r rest → (∀ c ∈ r, c.length ≤ M) ∧ rest.length ≤ M
  | n, acc, t, r, rest, ha, ht, h => by
    have more : ∀ b : Bt, b.length ≤ M → ∀ c ∈ acc ++ [b], c.length ≤ M := fun b hb c hc => by
      rcases List.mem_append.1 hc with hc | hc
      · exact ha c hc
      · rw [List.mem_singleton] at hc; rw [hc]; exact hb
    cases hc : cellR sep t with
    | bad r1 e => cases n <;> (unfold rowR at h; rw [hc] at h; cases h)
    | ok b r1 =>
      have hl := cellR_le hc
      cases r1 with
      | nil =>
        have h' : RowR.ok (acc ++ [b]) [] = .ok r rest := by cases n <;> (unfold rowR at h; rw [hc] at h; exact h)
        injection h' with h1 h2; subst h1 h2
        exact ⟨more b (by omega), Nat.zero_le _⟩
      | cons c r1 =>
        simp at hl
        cases n with
        | zero =>
          have h' : RowR.ok (acc ++ [b]) r1 = .ok r rest := by unfold rowR at h; rw [hc] at h; exact h
          injection h' with h1 h2; subst h1 h2
          exact ⟨more b (by omega), by omega⟩
        | succ n =>
          have h' : (if c = 10 then RowR.ok (acc ++ [b]) r1 else rowR sep n (acc ++ [b]) r1) = .ok r rest := by unfold rowR at h; rw [hc] at h; exact h
          by_cases h10 : c = 10
          · rw [if_pos h10] at h'
            injection h' with h1 h2; subst h1 h2
            exact ⟨more b (by omega), by omega⟩
          · rw [if_neg h10] at h'
            exact rowR_le n _ _ _ _ (more b (by omega)) (by omega) h'
theorem tabR_le {sep : UInt8} {M : Nat} : ∀ (n : Nat) (acc : List (List Bt)) (t : Bt) (rows : List (List Bt)), (∀ r ∈ acc, ∀ c ∈ r, c.length ≤ M) → acc.length ≤ 2001 → t.length ≤ M → tabR sep n acc t = .ok rows → (∀ r ∈ rows, ∀ c ∈ r, c.length ≤ M) ∧ rows.length ≤ 2001
  | n, acc, [], rows, ha, hl, _, h => by
    have h' : TabR.ok acc = .ok rows := by cases n <;> exact h
    injection h' with h'; subst h'
    exact ⟨ha, hl⟩
  | 0, acc, c :: t, rows, ha, hl, _, h => by cases h
  | n + 1, acc, c :: t, rows, ha, hl, ht, h => by
    by_cases h1 : acc.length = 2001
    · rw [tabR_full h1] at h; cases h
    cases hr : rowR sep (c :: t).length [] (c :: t) with
    | bad r1 e => rw [tabR_bad h1 hr] at h; cases h
    | ok r rest =>
      rw [tabR_row h1 hr] at h
      obtain ⟨h2, h3⟩ := rowR_le _ _ _ _ _ (fun _ h => absurd h (by simp)) ht hr
      refine tabR_le n _ _ _ (fun r' hr' => ?_) (by rw [List.length_append, List.length_singleton]; omega) h3 h
      rcases List.mem_append.1 hr' with hr' | hr'
      · exact ha r' hr'
      · rw [List.mem_singleton] at hr'; rw [hr']; exact h2
theorem cells_le (sep : UInt8) (s : Bt) : (∀ r ∈ (cellsE sep s).1, ∀ c ∈ r, c.length ≤ 16384) ∧ (cellsE sep s).1.length ≤ 2001 := by
  unfold cellsE
  by_cases h1 : isSep sep = false
  · rw [if_pos h1]; exact ⟨fun _ h => absurd h (by simp), Nat.zero_le _⟩
  rw [if_neg h1]
  by_cases h2 : 16384 < s.length
  · rw [if_pos h2]; exact ⟨fun _ h => absurd h (by simp), Nat.zero_le _⟩
  rw [if_neg h2]
  cases h : tabR sep s.length [] s with
  | bad r e => exact ⟨fun _ h => absurd h (by simp [tabE]), Nat.zero_le _⟩
  | ok rows => exact tabR_le _ _ _ _ (fun _ h => absurd h (by simp)) (Nat.zero_le _) (by omega) h
theorem headD_ok {r : List Bt} : ∀ (ks seen : List Int), (headD r seen ks).2 = 0 → (∀ k ∈ ks, k < (r.length : Int) ∧ isNameB (bsOf (cellAt r k)) = true ∧ ∀ j ∈ seen, cellAt r j ≠ cellAt r k) ∧ (ks.map (cellAt r)).Nodup
  | [], seen, _ => ⟨fun _ h => absurd h (by simp), by simp⟩
  | k :: ks, seen, h => by
    unfold headD at h
    by_cases h1 : (r.length : Int) ≤ k
    · rw [if_pos h1] at h; exact absurd h (show (10 : Int) ≠ 0 by decide)
    rw [if_neg h1] at h
    by_cases h2 : isNameB (bsOf (cellAt r k)) = false
    · rw [if_pos h2] at h; exact absurd h (show (8 : Int) ≠ 0 by decide)
    rw [if_neg h2] at h
    by_cases h3 : (seen.any fun j => decide (cellAt r j = cellAt r k)) = true
    · rw [if_pos h3] at h; exact absurd h (show (9 : Int) ≠ 0 by decide)
    rw [if_neg h3] at h
    obtain ⟨i1, i2⟩ := headD_ok ks (seen ++ [k]) h
    refine ⟨fun k' hk' => ?_, ?_⟩
    · rcases List.mem_cons.1 hk' with rfl | hk'
      · refine ⟨by omega, by simpa using h2, fun j hj e => h3 ?_⟩
        rw [List.any_eq_true]
        exact ⟨j, hj, decide_eq_true e⟩
      · obtain ⟨a, b, c⟩ := i1 k' hk'
        exact ⟨a, b, fun j hj => c j (List.mem_append_left _ hj)⟩
    · rw [List.map_cons, List.nodup_cons]
      refine ⟨fun hm => ?_, i2⟩
      obtain ⟨k', hk', e⟩ := List.mem_map.1 hm
      exact (i1 k' hk').2.2 k (by simp) e.symm
theorem head_ok {r : List Bt} {m : Mp} (h : (headE r m).2 = 0) : (∀ k ∈ colsX m, k < (r.length : Int)) ∧ (m.data.map (cellAt r)).Nodup ∧ ∀ k ∈ m.data, isNameB (bsOf (cellAt r k)) = true := by
  unfold headE at h
  cases hf : (fieldsB m).find? (fun k => decide ((r.length : Int) ≤ k)) with
  | some k => rw [hf] at h; exact absurd h (show (10 : Int) ≠ 0 by decide)
  | none =>
    rw [hf] at h
    obtain ⟨h1, h2⟩ := headD_ok m.data [] h
    refine ⟨fun k hk => ?_, h2, fun k hk => (h1 k hk).2.1⟩
    rcases List.mem_append.1 hk with hk | hk
    · have := List.find?_eq_none.1 hf k hk
      simpa using this
    · exact (h1 k hk).1
theorem fldsD_col (r hd : List Bt) : ∀ (ks : List (Int × Int)) (acc : List Fld), (∀ k ∈ ks, 0 ≤ k.1 ∧ k.1 < 40) → 0 ≤ (fldsD r hd acc ks).2.1 ∧ (fldsD r hd acc ks).2.1 < 40
  | [], acc, _ => ⟨Int.le_refl _, by show (0 : Int) < 40; decide⟩
  | (k, q) :: ks, acc, h => by
    have ih := fun acc => fldsD_col r hd ks acc (fun x hx => h x (List.mem_cons_of_mem _ hx))
    have h0 := h (k, q) List.mem_cons_self
    unfold fldsD
    (repeat' split) <;> first | exact ih _ | exact h0
theorem evE_col {r hd : List Bt} {m : Mp} (hok : MpOk m) : 0 ≤ (evE r hd m).2.1 ∧ (evE r hd m).2.1 < 40 := by
  have hD := fldsD_col r hd (m.data.zip m.kinds) [] (fun k hk => hok.data k.1 (List.of_mem_zip hk).1)
  have e0 : (0 : Int) ≤ 0 ∧ (0 : Int) < 40 := by decide
  have hE : ∀ res life t, 0 ≤ (evEnd r m res life t (fldsD r hd [] (m.data.zip m.kinds))).2.1 ∧ (evEnd r m res life t (fldsD r hd [] (m.data.zip m.kinds))).2.1 < 40 := fun res life t => by
    unfold evEnd
    split
    · exact e0
    · exact hD
  have hT : ∀ res life, 0 ≤ (evT r hd m res life).2.1 ∧ (evT r hd m res life).2.1 < 40 := fun res life => by
    unfold evT
    (repeat' split) <;> first | exact hE _ _ _ | exact hok.time | (dsimp only; exact hok.time)
  have hres := hok.res
  have hlife := hok.life
  have hL : ∀ res, 0 ≤ (evL r hd m res).2.1 ∧ (evL r hd m res).2.1 < 40 := fun res => by
    unfold evL
    (repeat' split) <;> first | exact hT _ _ | (dsimp only; omega)
  have hR : 0 ≤ (evR r hd m).2.1 ∧ (evR r hd m).2.1 < 40 := by
    unfold evR
    (repeat' split) <;> first | exact hL _ | (dsimp only; omega)
  unfold evE
  (repeat' split) <;> first | exact hR | exact hok.cas | exact hok.act
end Go.Proofs.YtoalecalahkblaaGreatDoor
