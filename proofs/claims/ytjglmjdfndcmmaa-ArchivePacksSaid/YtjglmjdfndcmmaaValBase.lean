/- Values in memory; value.number, value.text, value.Valid and the reference's. -/
import Derived.Test.YtjglmjdfndcmmaaValSpec
import Derived.Test.YtjglmjdfndcmmaaOwn
import Derived.Outline
import Derived.Shelf.Abstract
import Derived.Laws.IdiomStrings
set_option linter.all false
namespace Go.Proofs.Ytjglmjdfndcmmaa
open Go.RowKit

/-! ### how values and variables read -/
structure FitV (v : Val) : Prop where
  kind : Fit v.kind
  n : Fit v.n
  s : v.s.size ≤ maxLen
def valV (v : Val) : Value := .agg #[.int .i64 v.kind, .int .i64 v.n, .string v.s]
def RVal : ElemR Val := fun _ _ v cs => cs = [.int .i64 v.kind, .int .i64 v.n, .string v.s] ∧ FitV v
theorem RVal.kept : ElemR.Kept RVal := fun _ _ _ _ _ _ _ _ h => h
def SlV := Sl 3 RVal
def RVar : ElemR Var := fun D w x cs => ∃ iv, cs = [.string x.name, .int .i64 x.kind, .int .i64 x.low, .int .i64 x.high, iv] ∧ x.name.size ≤ maxLen ∧ Fit x.kind ∧ Fit x.low ∧ Fit x.high ∧ SlS D w iv x.items
theorem RVar.kept : ElemR.Kept RVar := by
  rintro D D' w w' x cs hd hs ⟨iv, rfl, h1, h2, h3, h4, hi⟩
  exact ⟨iv, rfl, h1, h2, h3, h4, Sl.keep hi RStr.kept hd hs⟩
def SlX := Sl 5 RVar
def IsVar (D : Nat → Prop) (w : World) (u : Value) (x : Var) : Prop := ∃ iv, u = .agg #[.string x.name, .int .i64 x.kind, .int .i64 x.low, .int .i64 x.high, iv] ∧ x.name.size ≤ maxLen ∧ Fit x.kind ∧ Fit x.low ∧ Fit x.high ∧ SlS D w iv x.items
section
variable {D D' : Nat → Prop} {w w' : World} {u : Value}
theorem IsVar.now {x : Var} (h : IsVar (Lt w.heap.size) w u x) (hb : Below w.heap.size w w') : IsVar (Lt w'.heap.size) w' u x := by
  obtain ⟨iv, e, h1, h2, h3, h4, hi⟩ := h
  exact ⟨iv, e, h1, h2, h3, h4, hi.now hb⟩
theorem IsVar.below {x : Var} {B B' : Nat} (h : IsVar (Lt B) w u x) (hb : Below B w w') (hB : B ≤ B') : IsVar (Lt B') w' u x := by
  obtain ⟨iv, e, h1, h2, h3, h4, hi⟩ := h
  exact ⟨iv, e, h1, h2, h3, h4, hi.below hb hB⟩
theorem SlV.now {zs : List Val} (h : SlV (Lt w.heap.size) w u zs) (hb : Below w.heap.size w w') : SlV (Lt w'.heap.size) w' u zs := Sl.below h RVal.kept hb hb.size
theorem SlX.now {zs : List Var} (h : SlX (Lt w.heap.size) w u zs) (hb : Below w.heap.size w w') : SlX (Lt w'.heap.size) w' u zs := Sl.below h RVar.kept hb hb.size
theorem SlV.open_ {zs : List Val} (h : SlV D w u zs) : ∃ A c, u = .slice A zs.length c ∧ zs.length ≤ c ∧ c ≤ 9223372036854775807 ∧ SlV D w (.slice A zs.length c) zs := Sl.open_ h
theorem SlX.open_ {zs : List Var} (h : SlX D w u zs) : ∃ A c, u = .slice A zs.length c ∧ zs.length ≤ c ∧ c ≤ 9223372036854775807 ∧ SlX D w (.slice A zs.length c) zs := Sl.open_ h
theorem SlV.at_ {zs : List Val} {A : Option Addr} {n c k : Nat} (h : SlV D w (.slice A n c) zs) (hk : k < n) :
    ∃ b o v, A = some ⟨b, o, none⟩ ∧ D b ∧ zs[k]? = some v ∧ FitV v ∧ w.cell? ⟨b, o + k * 3, none⟩ = some (.int .i64 v.kind) ∧ w.cell? ⟨b, o + k * 3 + 1, none⟩ = some (.int .i64 v.n) ∧ w.cell? ⟨b, o + k * 3 + 2, none⟩ = some (.string v.s) := by
  obtain ⟨b, o, x, u0, u1, u2, hA, hD, hx, ⟨hu, hf⟩, h0, h1, h2⟩ := Sl.at3 h hk
  injection hu with e0 hu; injection hu with e1 hu; injection hu with e2 hu
  subst e0 e1 e2
  exact ⟨b, o, x, hA, hD, hx, hf, h0, h1, h2⟩
theorem Sl.at5 {α : Type} {R : ElemR α} {xs : List α} {A : Option Addr} {n c k : Nat} (h : Sl 5 R D w (.slice A n c) xs) (hk : k < n) :
    ∃ b o x u0 u1 u2 u3 u4, A = some ⟨b, o, none⟩ ∧ D b ∧ xs[k]? = some x ∧ R D w x [u0, u1, u2, u3, u4] ∧ w.cell? ⟨b, o + k * 5, none⟩ = some u0 ∧ w.cell? ⟨b, o + k * 5 + 1, none⟩ = some u1 ∧ w.cell? ⟨b, o + k * 5 + 2, none⟩ = some u2 ∧ w.cell? ⟨b, o + k * 5 + 3, none⟩ = some u3 ∧ w.cell? ⟨b, o + k * 5 + 4, none⟩ = some u4 := by
  obtain ⟨A', c', hv, h1, h2, h3⟩ := h
  injection hv with hA hn hc
  subst hA hn hc
  obtain ⟨b, o, cs, hA, hD, hl, hr, hcell⟩ := h3 k xs[k] (List.getElem?_eq_getElem hk)
  match cs, hl with
  | [u0, u1, u2, u3, u4], _ => exact ⟨b, o, xs[k], u0, u1, u2, u3, u4, hA, hD, List.getElem?_eq_getElem hk, hr, hcell 0 u0 rfl, hcell 1 u1 rfl, hcell 2 u2 rfl, hcell 3 u3 rfl, hcell 4 u4 rfl⟩
theorem SlX.at_ {zs : List Var} {A : Option Addr} {n c k : Nat} (h : SlX D w (.slice A n c) zs) (hk : k < n) :
    ∃ b o x iv, A = some ⟨b, o, none⟩ ∧ D b ∧ zs[k]? = some x ∧ IsVar D w (.agg #[.string x.name, .int .i64 x.kind, .int .i64 x.low, .int .i64 x.high, iv]) x ∧ SlS D w iv x.items ∧ w.cell? ⟨b, o + k * 5, none⟩ = some (.string x.name) ∧ w.cell? ⟨b, o + k * 5 + 1, none⟩ = some (.int .i64 x.kind) ∧ w.cell? ⟨b, o + k * 5 + 2, none⟩ = some (.int .i64 x.low) ∧ w.cell? ⟨b, o + k * 5 + 3, none⟩ = some (.int .i64 x.high) ∧ w.cell? ⟨b, o + k * 5 + 4, none⟩ = some iv := by
  obtain ⟨b, o, x, u0, u1, u2, u3, u4, hA, hD, hx, ⟨iv, hu, a1, a2, a3, a4, hi⟩, h0, h1, h2, h3, h4⟩ := Sl.at5 h hk
  injection hu with e0 hu; injection hu with e1 hu; injection hu with e2 hu; injection hu with e3 hu; injection hu with e4 hu
  subst e0 e1 e2 e3 e4
  exact ⟨b, o, x, u4, hA, hD, hx, ⟨u4, rfl, a1, a2, a3, a4, hi⟩, hi, h0, h1, h2, h3, h4⟩
end

/-! ### number -/
theorem numB_yes {n : Int} (h1 : -4503599627370496 ≤ n) (h2 : n ≤ 4503599627370496) : numB n = true := by unfold numB; simp [h1, h2]
theorem numB_no {n : Int} (h : ¬ (-4503599627370496 ≤ n ∧ n ≤ 4503599627370496)) : numB n = false := by unfold numB; simp only [h, decide_false]
set_option maxHeartbeats 400000 in
theorem number_any (n : Int) (w : World) : Calls Try.prog 94 #[.int .i64 n] w fun e w' => e = .returned (.bool (numB n)) ∧ w = w' := by
  by_cases h1 : -4503599627370496 ≤ n <;> by_cases h2 : n ≤ 4503599627370496
  all_goals
    go_enter Try.func94, Try.ntmps94
    go_wp2
    go_ret
    exact ⟨ret_bool (by first | exact (numB_yes h1 h2).symm | exact (numB_no (fun h => by omega)).symm), rfl⟩
set_option maxHeartbeats 400000 in
theorem number_ref (n : Int) (w : World) : Calls Try.prog 102 #[.int .i64 n] w fun e w' => e = .returned (.bool (numB n)) ∧ w = w' := by
  by_cases h1 : -4503599627370496 ≤ n <;> by_cases h2 : n ≤ 4503599627370496
  all_goals
    go_enter Try.func102, Try.ntmps102
    go_wp2
    go_ret
    exact ⟨ret_bool (by first | exact (numB_yes h1 h2).symm | exact (numB_no (fun h => by omega)).symm), rfl⟩

/-! ### text -/
theorem plainC_iff (c : UInt8) : plainC c = true ↔ 32 ≤ (c.toNat : Int) ∧ (c.toNat : Int) ≤ 126 := by unfold plainC; simp; omega
set_option maxHeartbeats 400000 in
theorem text1_any (c : UInt8) (w : World) : Calls Try.prog 105 #[.int .u8 (c.toNat : Int)] w fun e w' => e = .returned (.bool (!plainC c)) ∧ w = w' := by
  have HP := Lib.hid (plainC_iff c)
  generalize hq : plainC c = q at *
  generalize (c.toNat : Int) = z at *
  by_cases h1 : z < 32
  · have hq' : q = false := by cases q with | false => rfl | true => have := HP.out.1 rfl; omega
    subst hq'
    go_enter Try.func105, Try.ntmps105
    go_wp2
    go_ret
    exact ⟨rfl, rfl⟩
  by_cases h2 : 126 < z
  · have hq' : q = false := by cases q with | false => rfl | true => have := HP.out.1 rfl; omega
    subst hq'
    go_enter Try.func105, Try.ntmps105
    go_wp2
    go_ret
    exact ⟨rfl, rfl⟩
  · have hq' : q = true := HP.out.2 ⟨by omega, by omega⟩
    subst hq'
    go_enter Try.func105, Try.ntmps105
    go_wp2
    go_ret
    exact ⟨rfl, rfl⟩

def RowB (w : World) (g : Nat) (l : List UInt8) : Prop := ∀ k c, l[k]? = some c → w.cell? ⟨g, k, none⟩ = some (.int .u8 (c.toNat : Int))
theorem any_false_of {α : Type} (p : α → Bool) (xs : List α) (h : ∀ q y, q < xs.length → xs[q]? = some y → p y = false) : xs.any p = false := by
  rw [List.any_eq_false]
  intro x hx
  obtain ⟨q, hq, rfl⟩ := List.mem_iff_getElem.1 hx
  rw [h q _ hq (List.getElem?_eq_getElem hq)]; simp

set_option maxHeartbeats 400000 in
theorem indexTextB (g c : Nat) (l : List UInt8) (w : World) (hl : l.length ≤ 1000000) (h : RowB w g l) :
    Calls Try.prog 117 #[.slice (some ⟨g, 0, none⟩) l.length c, .func (.func 105) #[] #[]] w fun e w' => ∃ z : Int, e = .returned (.int .i64 z) ∧ decide (0 ≤ z) = (l.any fun x => !plainC x) ∧ w = w' := by
  have eg : ∀ args w, (callFunc 105 args).run Try.prog w = .ok (.enter 105 args) w := enters_of Try.func105 (by kernel_rfl) rfl
  have HH := Lib.hid h
  clear h
  go_enter Try.func117, Try.ntmps117
  go_wp2_with fail
  go_loopw [8] (fun i wr => ∃ j : Nat, j ≤ l.length ∧ i = .int .i64 j ∧ (∀ q t, q < j → l[q]? = some t → (!plainC t) = false) ∧ wr = w) (fun i _ => l.length - (intOf i).toNat)
  case atStart => exact ⟨0, Nat.zero_le _, rfl, fun q _ h => absurd h (by omega), rfl⟩
  case round =>
    obtain ⟨j, hj, rfl, hp, rfl⟩ := hrel
    have HP := Lib.hid hp
    clear hp
    by_cases hlt : j < l.length
    · have HX : Hid (l[j]? = some l[j]) := List.getElem?_eq_getElem hlt
      have c0 := HH.out j _ HX.out
      have HC := Lib.hid (fun W => text1_any l[j] W)
      generalize l[j] = x at *
      generalize hq : plainC x = q at *
      have HQ := Lib.hid hq
      clear hq
      cases q
      · go_wp2_with (go_at_fn 105; refine (HC.out _).mono ?_; rintro e w' ⟨rfl, rfl⟩)
        go_ret
        refine ⟨_, rfl, ?_, rfl⟩
        have : (l.any fun x => !plainC x) = true := List.any_eq_true.2 ⟨x, List.mem_of_getElem? HX.out, by rw [HQ.out]; rfl⟩
        rw [this]
        simp
      · go_wp2_with (go_at_fn 105; refine (HC.out _).mono ?_; rintro e w' ⟨rfl, rfl⟩)
        go_roundw
        case rel =>
          refine ⟨j + 1, by omega, by go_num, fun q y hq hy => ?_, trivial⟩
          by_cases e : q = j
          · subst e; rw [HX.out] at hy; injection hy with hy; subst hy; rw [HQ.out]; rfl
          · exact HP.out q y (by omega) hy
        case measure => simp [intOf]; omega
    · go_wp2_with fail
      go_ret
      refine ⟨_, rfl, ?_, rfl⟩
      rw [any_false_of _ l (fun q y hq hy => HP.out q y (by omega) hy)]
      simp
theorem containsTextB (g c : Nat) (l : List UInt8) (w : World) (hl : l.length ≤ 1000000) (h : RowB w g l) :
    Calls Try.prog 104 #[.slice (some ⟨g, 0, none⟩) l.length c, .func (.func 105) #[] #[]] w fun e w' => e = .returned (.bool (l.any fun x => !plainC x)) ∧ w = w' := by
  have HC := Lib.hid (indexTextB g c l w hl h)
  clear h
  go_enter Try.func104, Try.ntmps104
  go_wp2_with (go_at_call 117; refine HC.out.mono ?_; rintro e w' ⟨z, rfl, hz, rfl⟩)
  go_ret
  exact ⟨rfl, rfl⟩
end Go.Proofs.Ytjglmjdfndcmmaa
