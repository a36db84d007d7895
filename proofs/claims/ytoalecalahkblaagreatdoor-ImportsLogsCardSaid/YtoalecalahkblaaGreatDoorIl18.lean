/- Texts of this seat, merged. -/
import Derived.Test.YtoalecalahkblaaGreatDoorProg
import Derived.Laws.Runes
import Derived.Laws.Concat
import Derived.Test.YtoalecalahkblaaGreatDoorIl01
import Derived.Test.YtoalecalahkblaaGreatDoorIl02
import Derived.Test.YtoalecalahkblaaGreatDoorIl03
import Derived.Test.YtoalecalahkblaaGreatDoorIl04
import Derived.Test.YtoalecalahkblaaGreatDoorIl05
import Derived.Test.YtoalecalahkblaaGreatDoorIl06
import Derived.Test.YtoalecalahkblaaGreatDoorIl07
import Derived.Test.YtoalecalahkblaaGreatDoorIl08
import Derived.Test.YtoalecalahkblaaGreatDoorIl09
import Derived.Test.YtoalecalahkblaaGreatDoorIl10
import Derived.Test.YtoalecalahkblaaGreatDoorIl11
import Derived.Test.YtoalecalahkblaaGreatDoorIl12
import Derived.Test.YtoalecalahkblaaGreatDoorIl13
import Derived.Test.YtoalecalahkblaaGreatDoorIl14
import Derived.Test.YtoalecalahkblaaGreatDoorIl15
import Derived.Test.YtoalecalahkblaaGreatDoorIl16
import Derived.Test.YtoalecalahkblaaGreatDoorIl17
set_option linter.all false
set_option linter.all false
namespace Go.Proofs.YtoalecalahkblaaGreatDoor
open Go.RowKit
abbrev PR := {p : Ev × Value // p.2.oneCell' = true}
def cellPR (p : PR) : List Value := [.string p.val.1.cas, .string p.val.1.act, .string p.val.1.res, .int .i64 p.val.1.life, .int .i64 p.val.1.time, p.val.2]
theorem cellPR_len (p : PR) : (cellPR p).length = 6 := rfl
theorem cellPR_one (p : PR) : ∀ u ∈ cellPR p, u.oneCell' = true := by
  intro u hu
  simp [cellPR] at hu
  rcases hu with rfl | rfl | rfl | rfl | rfl | rfl <;> first | rfl | exact p.property
def RPR : ElemR PR := fun _ _ p cs => cs = cellPR p
theorem RPR.kept : ElemR.Kept RPR := fun _ _ _ _ _ _ _ _ h => h
def OwnPR (w : World) (B : Nat) (v : Value) (ps : List PR) : Prop := OwnW 6 cellPR w B 69 v ps
structure GoodPR (w : World) (B : Nat) (p : PR) : Prop where
  fit : FitEv p.val.1
  own : OwnFl w B p.val.2 p.val.1.data
  fl : ∀ f ∈ p.val.1.data, FitFl f
theorem GoodPR.now {w w' : World} {B : Nat} {p : PR} (h : GoodPR w B p) (hb : Below w.heap.size w w') : GoodPR w' B p := ⟨h.fit, OwnW.now h.own hb, h.fl⟩
theorem GoodPR.grown {w w' : World} {B B' : Nat} {p : PR} {v : Value} {ps : List PR} (h : GoodPR w B p) (hv : OwnPR w B' v ps) (hg : w.grownBy w' v.ownBlock) : GoodPR w' B p := by
  refine ⟨h.fit, World.ownsRow.kept h.own hg ?_, h.fl⟩
  rcases kind_neG h.own hv (by decide) with e | e
  · exact .inl e
  · exact .inr e
theorem OwnPR.sl {w : World} {B : Nat} {v : Value} {ps : List PR} (h : OwnPR w B v ps) (hg : ∀ p ∈ ps, GoodPR w B p) : SlEv (Lt w.heap.size) w v (ps.map fun p => p.val.1) := by
  have h3 : Sl 6 RPR (Lt w.heap.size) w v ps := OwnW.sl h cellPR_len fun _ _ x _ => rfl
  obtain ⟨A, c, rfl, g1, g2, g3⟩ := h3
  refine ⟨A, c, by simp, by simpa using g1, g2, fun i x hx => ?_⟩
  rw [List.getElem?_map, Option.map_eq_some_iff] at hx
  obtain ⟨p, hp, rfl⟩ := hx
  obtain ⟨b, o, cs, hA, hD, hl, rfl, hc⟩ := g3 i p hp
  have hh := hg p (List.mem_of_getElem? hp)
  exact ⟨b, o, _, hA, hD, hl, ⟨_, rfl, hh.fit, OwnW.sl hh.own (fun _ => rfl) fun _ _ f hf => ⟨rfl, hh.fl f hf⟩⟩, hc⟩
theorem OwnPR.form {w : World} {B : Nat} {v : Value} {ps : List PR} (h : OwnPR w B v ps) : (ps = [] ∧ v = .slice none 0 0) ∨ ∃ g c, v = .slice (some ⟨g, 0, none⟩) ps.length c ∧ ps.length ≤ c ∧ c ≤ 9223372036854775807 := by
  rcases h.2 with ⟨e, h0⟩ | ⟨g, cap, cur, e, _, _, hc, hm, _⟩
  · exact .inl ⟨List.eq_nil_of_length_eq_zero h0, e⟩
  · exact .inr ⟨g, cap, e, hc, hm⟩
theorem OwnPR.isSl {w : World} {B : Nat} {v : Value} {ps : List PR} (h : OwnPR w B v ps) : ∃ A c, v = .slice A ps.length c := by
  rcases h.form with ⟨rfl, e⟩ | ⟨g, c, e, _⟩
  · exact ⟨none, 0, e⟩
  · exact ⟨_, _, e⟩
theorem OwnPR.at_ {w : World} {B : Nat} {A : Option Addr} {n c : Nat} {ps : List PR} {k : Nat} {p : PR} (h : OwnPR w B (.slice A n c) ps) (hp : ps[k]? = some p) : ∃ g, A = some ⟨g, 0, none⟩ ∧ w.cell? ⟨g, k * 6 + 4, none⟩ = some (.int .i64 p.val.1.time) := by
  have hk : k < ps.length := by
    rcases Nat.lt_or_ge k ps.length with h' | h'
    · exact h'
    · rw [List.getElem?_eq_none h'] at hp; cases hp
  have h3 : Sl 6 RPR (Lt w.heap.size) w (.slice A n c) ps := OwnW.sl h cellPR_len fun _ _ x _ => rfl
  rcases h.2 with ⟨e, h0⟩ | ⟨g, cap, cur, e, _⟩
  · omega
  · injection e with e1 e2 e3
    subst e1
    obtain ⟨A', c', hv, _, _, g3⟩ := h3
    injection hv with hA _ _
    obtain ⟨b, o, cs, hA', hD, hl, rfl, hc⟩ := g3 k p hp
    rw [← hA] at hA'
    injection hA' with hA'
    injection hA' with e1 e2 _
    subst e1 e2
    refine ⟨g, rfl, ?_⟩
    have := hc 4 _ rfl
    rwa [Nat.zero_add] at this
theorem ownBk (A : Option Addr) (n c n' c' : Nat) : (Value.slice A n c).ownBlock = (Value.slice A n' c').ownBlock := by cases A <;> rfl
theorem OwnPR.pre {w : World} {base j c : Nat} {A : Option Addr} {n : Nat} {l : List PR} (h : OwnPR w base (.slice A n c) l) (hj : j ≤ l.length) : OwnPR w base (.slice A j c) (l.take j) := by
  have hl : (l.take j).length = j := by rw [List.length_take]; omega
  have hfl : (flat cellPR (l.take j)).length = j * 6 := by rw [flat_len cellPR_len, hl]
  refine ⟨by rw [hl]; exact hfl, ?_⟩
  rw [hl]
  rcases h.2 with ⟨e, h0⟩ | ⟨g, cap, cur, e, hb, hg, hc, hm, hs, ht⟩
  · injection e with e1 e2 e3
    subst e1 e3
    have : j = 0 := by omega
    subst this
    exact .inl ⟨rfl, rfl⟩
  · injection e with e1 e2 e3
    subst e1 e3
    refine .inr ⟨g, c, cur, rfl, hb, hg, by omega, hm, hs, ?_⟩
    have e2 : flat cellPR (l.take j) = (flat cellPR l).take (j * 6) := by
      have h3 : flat cellPR l = flat cellPR (l.take j) ++ flat cellPR (l.drop j) := by rw [← flat_append, List.take_append_drop]
      rw [h3, List.take_append_of_le_length (by rw [hfl]; exact Nat.le_refl _)]
      exact (List.take_of_length_le (by rw [hfl]; exact Nat.le_refl _)).symm
    rw [e2, ← ht, List.take_take]
    congr 1
    omega
theorem grown_new {a b c : World} {row r2 : Option Nat} (h : a.grownBy b row) (k : b.grownBy c r2) (hn : r2 = row ∨ ∃ g, r2 = some g ∧ a.heap.size ≤ g) : a.grownBy c row := by
  rcases hn with rfl | ⟨g, rfl, hg⟩
  · exact grown_trans h k
  · exact ⟨k.os.trans h.os, k.tape.trans h.tape, k.output.trans h.output, Nat.le_trans h.size k.size, fun i hi hne => (k.block i (Nat.lt_of_lt_of_le hi h.size) (fun e => by injection e with e; omega)).trans (h.block i hi hne)⟩
theorem take_lastT {l : List Ev} (h : AscM tlt l) {k : Nat} {y e : Ev} (hy : l[k]? = some y) (he : ¬ e.time < y.time) : ∀ x ∈ l.take (k + 1), tlt e x = false := by
  intro x hx
  obtain ⟨i, hi, rfl⟩ := List.mem_iff_getElem.1 hx
  rw [List.length_take] at hi
  rw [List.getElem_take]
  unfold tlt
  refine decide_eq_false ?_
  have hk : k < l.length := by
    rcases Nat.lt_or_ge k l.length with h' | h'
    · exact h'
    · rw [List.getElem?_eq_none h'] at hy; cases hy
  rw [List.getElem?_eq_getElem hk] at hy
  injection hy with hy
  rcases Nat.lt_or_ge i k with h1 | h1
  · have := List.pairwise_iff_getElem.1 h i k (by omega) hk h1
    rw [hy] at this
    unfold tlt at this
    have := of_decide_eq_false this
    omega
  · have : i = k := by omega
    subst this
    rw [hy]; exact he
theorem ins_placeT {l : List Ev} {e : Ev} {k : Nat} (h1 : ∀ x ∈ l.take k, tlt e x = false) (h2 : ∀ x ∈ l.drop k, tlt e x = true) : l.take k ++ [e] ++ l.drop k = insL tlt l e := by
  have := mg_last (lt := tlt) (y := e) h1 h2
  rw [List.take_append_drop] at this
  unfold insL
  rw [this, List.append_assoc]
  rfl
theorem sortS_snoc (acc : List Ev) (e : Ev) : sortS tlt (acc ++ [e]) = insL tlt (sortS tlt acc) e := by unfold sortS; rw [List.foldl_append]; rfl
theorem row_snoc {ps : List PR} {acc : List Ev} {px : PR} {q : Nat} (h : ps.map (fun p => p.val.1) = sortS tlt acc) (hq : q ≤ ps.length) (h2 : ∀ p ∈ ps.drop q, px.val.1.time < p.val.1.time) (h1 : ∀ r p, q = r + 1 → ps[r]? = some p → ¬ px.val.1.time < p.val.1.time) :
    (ps.take q ++ [px] ++ ps.drop q).map (fun p => p.val.1) = sortS tlt (acc ++ [px.val.1]) := by
  rw [sortS_snoc, ← h, List.map_append, List.map_append, List.map_take, List.map_drop]
  refine ins_placeT (fun x hx => ?_) (fun x hx => ?_)
  · cases q with
    | zero => rw [List.take_zero] at hx; cases hx
    | succ r =>
      have hr : r < ps.length := by omega
      haveI : Inhabited Ev := ⟨noEv⟩
      have ha : AscM tlt (ps.map fun p => p.val.1) := by rw [h]; exact asc_sortS swo_tlt acc
      refine take_lastT ha (k := r) (y := ps[r].val.1) (by rw [List.getElem?_map, List.getElem?_eq_getElem hr]; rfl) (h1 r ps[r] rfl (List.getElem?_eq_getElem hr)) x hx
  · rw [← List.map_drop, List.mem_map] at hx
    obtain ⟨p, hp, rfl⟩ := hx
    unfold tlt
    exact decide_eq_true (h2 p hp)
theorem wp_region_rel4 {P : Program} {l : List Oper} {id : Nat} {Q : Exit → Act → World → Prop} {a0 : Act} {w : World} (hm : P.follows .mixedOrders = true)
    (hB : dstsB l a0.tmps.size = true) (hD : dsts2B l = true) (R : (Nat → Prop) → World → Prop) (F : Nat → Value → World → Prop) (dead : Nat → Nat → Bool) (h0 : R (fun _ => False) w.drew)
    (hstep : ∀ (i : Nat) (o : Oper), l[i]? = some o → ∀ listed (a : Act) W, Shut l listed → i ∈ Region.ready .any l.toArray listed → Kin l a0 a → R (Up listed) W →
      (∀ j, j < l.length → Up listed j → (∀ k, dead j k = true → ¬ Up listed k) → F j (vOf l (Act.slot a) j) W) →
      (∀ s, (∀ (j : Nat) (o' : Oper), l[j]? = some o' → o'.dst = some s → ¬ Up listed j) → Act.slot a s = Act.slot a0 s) →
      o.wp P a W (fun a' W' => ∃ v, a' = a.put o.dst v ∧ R (fun j => j = i ∨ Up listed j) W' ∧ (∀ u, (o.dst ≠ none → u = v) → F i u W') ∧ ∀ j, j < l.length → j ≠ i → Up listed j → dead j i = false → ∀ u, F j u W → F j u W') Q)
    (hend : ∀ (a : Act) W U, Kin l a0 a → R U W → (∀ j, j < l.length → (∀ k, dead j k = false) → F j (vOf l (Act.slot a) j) W) → Q .normal a W)
    (hall : ∀ listed, Shut l listed → Region.ready .any l.toArray listed = [] → ∀ i, i < l.length → Up listed i) : (Code.region id l.toArray true).wp P Q a0 w := by
  refine wp_region_slots hm hB (fun listed σ W => (R (Up listed) W ∧ ∀ j, j < l.length → Up listed j → (∀ k, dead j k = true → ¬ Up listed k) → F j (vOf l σ j) W) ∧ ∀ s, (∀ (j : Nat) (o' : Oper), l[j]? = some o' → o'.dst = some s → ¬ Up listed j) → σ s = Act.slot a0 s) ⟨⟨?_, fun j _ hu => ?_⟩, fun s _ => rfl⟩ (steps_all fun i o ho listed a W hsh hi hk hK => ?_) (fun listed a W hu hk hK => hend a W _ hk hK.1.1 fun j hj hd => hK.1.2 j hj (hu j hj) fun k hk' => by rw [hd k] at hk'; cases hk') hall
  · have e : Up (Array.replicate l.length false) = fun _ => False := funext fun j => propext ⟨fun h => (by unfold Up at h; rw [getD_replicate_false] at h; cases h), False.elim⟩
    rw [e]; exact h0
  · unfold Up at hu; rw [getD_replicate_false] at hu; cases hu
  · have hil : i < l.length := (List.getElem?_eq_some_iff.1 ho).1
    refine Oper.wp_mono ?_ (hstep i o ho listed a W hsh hi hk hK.1.1 hK.1.2 hK.2)
    rintro a' W' ⟨v, rfl, hR, hf, hkeep⟩
    have eU : Up (listed.setIfInBounds i true) = fun j => j = i ∨ Up listed j := funext fun j => propext (by
      unfold Up
      rw [Array.getD_eq_getD_getElem?, Array.getD_eq_getD_getElem?, Array.getElem?_setIfInBounds]
      by_cases ek : i = j
      · subst ek; simp [hsh.size, hil]
      · rw [if_neg ek]; exact ⟨.inr, fun h => h.elim (fun h => absurd h.symm ek) (fun h => h)⟩)
    refine ⟨v, rfl, ⟨by rw [eU]; exact hR, fun j hj hu hd => ?_⟩, fun s hs => ?_⟩
    rotate_left
    · have eUi : ∀ j, Up (listed.setIfInBounds i true) j ↔ (j = i ∨ Up listed j) := fun j => by rw [eU]
      have h1 := hs i o ho
      have h2 : o.dst ≠ some s := fun e => h1 e ((eUi i).2 (.inl rfl))
      have h3 := hK.2 s (fun j o' hj hd hu => hs j o' hj hd ((eUi j).2 (.inr hu)))
      rw [← h3]
      cases e : o.dst with
      | none => rfl
      | some d =>
        have hsd : s ≠ d := fun e' => h2 (by rw [e, e'])
        simp [upd, hsd]
    obtain ⟨p1, p2⟩ := vOf_put hD ho (Act.slot a) v
    by_cases e : j = i
    · subst e; exact hf _ p1
    · rw [p2 j hj e]
      have hu' := up_set hu (fun h => e h.symm)
      have hdi : dead j i = false := by
        cases hq : dead j i with
        | false => rfl
        | true =>
          refine absurd ?_ (hd i hq)
          unfold Up
          have hsz := hsh.size
          rw [Array.getD_eq_getD_getElem?, Array.getElem?_setIfInBounds]
          simp [hsz, hil]
      refine hkeep j hj e hu' hdi _ (hK.1.2 j hj hu' fun k hk' hu2 => hd k hk' ?_)
      unfold Up at hu2 ⊢
      rw [Array.getD_eq_getD_getElem?, Array.getElem?_setIfInBounds]
      rw [Array.getD_eq_getD_getElem?] at hu2
      by_cases ek : i = k
      · subst ek; simp [hsh.size, hil]
      · rw [if_neg ek]; exact hu2
def onlyDst (l : List Oper) (s k : Nat) : Bool := (List.range l.length).all fun j => j == k || (match (l[j]?).bind (·.dst) with | some d => d != s | none => true)
theorem slot_until {l : List Oper} {listed : Array Bool} {a a0 : Act} {s k : Nat} (hB : onlyDst l s k = true) (hk : ¬ Up listed k)
    (hS : ∀ s, (∀ (j : Nat) (o' : Oper), l[j]? = some o' → o'.dst = some s → ¬ Up listed j) → Act.slot a s = Act.slot a0 s) : Act.slot a s = Act.slot a0 s := by
  refine hS s fun j o' hj hd => ?_
  have hjl : j < l.length := (List.getElem?_eq_some_iff.1 hj).1
  have := List.all_eq_true.1 hB j (List.mem_range.2 hjl)
  rw [hj, Option.bind_some, hd] at this
  simp at this
  rw [this]; exact hk
def insP (B S : Nat) (V1 V2 RV : Value) (k : Nat) (T D : List PR) (px : PR) (CA : Array Value) (O1 : Option Nat) : Nat → Value → World → Prop
  | 0, u, _ => u = V1
  | 1, u, _ => u = .int .i64 (k : Int)
  | 2, u, _ => u = V2
  | 3, u, _ => u = .agg CA
  | 4, u, W => ∃ g : Nat, u = .slice (some ⟨g, 0, none⟩) 1 1 ∧ Blk W g 69 CA ∧ S ≤ g
  | 5, u, W => OwnPR W B u (T ++ [px]) ∧ (u.ownBlock = O1 ∨ ∃ g, u.ownBlock = some g ∧ S ≤ g)
  | 6, u, _ => u = RV
  | 7, u, W => OwnPR W B u (T ++ [px] ++ D)
  | 8, u, W => OwnPR W B u (T ++ [px] ++ D)
  | _, _, _ => True
def insPD (j k : Nat) : Bool := (j == 4 && (k == 5 || k == 7)) || (j == 5 && k == 7)
theorem insPK {B S : Nat} {V1 V2 RV : Value} {k : Nat} {T D : List PR} {px : PR} {CA : Array Value} {O1 : Option Nat} {W W' : World} (hb : Below W.heap.size W W') : ∀ j u, insP B S V1 V2 RV k T D px CA O1 j u W → insP B S V1 V2 RV k T D px CA O1 j u W' := by
  intro j u h
  match j, h with
  | 0, h => exact h
  | 1, h => exact h
  | 2, h => exact h
  | 3, h => exact h
  | 4, ⟨g, h1, h2, h3⟩ => exact ⟨g, h1, h2.now hb, h3⟩
  | 5, ⟨h1, h2⟩ => exact ⟨OwnW.now h1 hb, h2⟩
  | 6, h => exact h
  | 7, h => exact OwnW.now h hb
  | 8, h => exact OwnW.now h hb
  | n + 9, h => exact trivial
theorem bsEv1 (a b c : ByteArray) (d e : Int) (A : Option Addr) (n k : Nat) (W : World) : (Instr.buildSlice 36 1 #[(0, .agg #[.string a, .string b, .string c, .int .i64 d, .int .i64 e, .slice A n k])]).run Tryz.prog W = .ok (.slice (some ⟨W.heap.size, 0, none⟩) 1 1) (W.alloc (.cells #[.string a, .string b, .string c, .int .i64 d, .int .i64 e, .slice A n k] 69)) := by kernel_rfl
theorem slPre (A : Option Addr) (n c k : Nat) (hk : k ≤ n) (hc : n ≤ c) (hf : (A = none ∧ c = 0) ∨ ∃ g, A = some ⟨g, 0, none⟩) (W : World) : (Instr.slice 36 (.slice A n c) none (some (.int .i64 (k : Int))) none).run Tryz.prog W = .ok (.slice A k c) W := by
  have hz : ∀ W', (sizeOf (Tryz.prog.elem 36)).run Tryz.prog W' = .ok 6 W' := fun W' => by kernel_rfl
  have hu : Tryz.prog.underlying 36 = some (.slice (Tryz.prog.elem 36)) := by kernel_rfl
  rw [run_slice_h _ _ _ _ _ hu .i64 (k : Int) (by omega) (by omega), hz]
  show Result.ok (sliced A 0 (k : Int).toNat c 6) W = _
  unfold sliced
  rcases hf with ⟨rfl, rfl⟩ | ⟨g, rfl⟩
  · simp
  · by_cases h : c = 0
    · subst h; simp
    · simp [h, Addr.add]
end Go.Proofs.YtoalecalahkblaaGreatDoor

set_option linter.all false
namespace Go.Proofs.YtoalecalahkblaaGreatDoor
open Go.RowKit
def ReadPost (s : ByteArray) (R : Int × List UInt8 × List UInt8) (w : World) (e : Ending) (w' : World) : Prop :=
  ∃ z : Int, e = .returned (.tuple #[.string ⟨R.2.1.toArray⟩, .int .i64 z, .int .i64 R.1]) ∧ (R.1 = 0 → z = (s.size - R.2.2.length : Nat)) ∧ Below w.heap.size w w'
theorem ret_sii {a b : ByteArray} {z c d : Int} (h1 : a = b) (h2 : c = d) : Ending.returned (.tuple #[.string a, .int .i64 z, .int .i64 c]) = .returned (.tuple #[.string b, .int .i64 z, .int .i64 d]) := by rw [h1, h2]
set_option maxHeartbeats 2000000 in
theorem read_ref (s : ByteArray) (w : World) (hs : s.size ≤ 32770) (h1 : 1 ≤ s.size) :
    Calls Tryz.prog 215 #[.string s] w (ReadPost s (readB [] (s.data.toList.drop 1)) w) := by
  generalize hR : readB [] (s.data.toList.drop 1) = R
  have HR := Lib.hid hR
  clear hR
  go_enter Tryz.func215, Tryz.ntmps215
  go_wp2_with fail
  go_loopw [5, 6] (fun bv i wr => ∃ (j : Nat) (L : List UInt8), j ≤ s.size ∧ i = .int .i64 j ∧ readB L (s.data.toList.drop j) = R ∧ L.length ≤ j ∧ OwnC wr w.heap.size bv L ∧ Below w.heap.size w wr) (fun _ i _ => s.size - (intOf i).toNat)
  case atStart => exact ⟨1, [], h1, rfl, HR.out, Nat.zero_le _, OwnW.nil, Below.refl _ _⟩
  case round =>
    obtain ⟨j, L, hj, rfl, hrd, hLj, hO, hbr⟩ := hrel
    have HRD := Lib.hid hrd
    have hsz := hbr.size
    clear hrd HR
    by_cases hlt : j < s.size
    · have HD := Lib.hid (drop_at hlt)
      have i1 : (0 : Int) ≤ (j : Int) := by omega
      have i2 : (j : Int) < (s.size : Int) := by omega
      by_cases h34 : (s[j].toNat : Int) = 34
      · have HE : Hid (R = (0, L, s.data.toList.drop (j + 1))) := by
          show _ = _
          rw [← HRD.out, HD.out, read_end (by omega)]
        have b1 : ((s[j].toNat : Int) == 34) = true := by rw [h34]; rfl
        have hcv := OwnC.conv hO
        clear h34
        go_wp2_with fail
        go_ret3
        refine ⟨(j : Int) + 1, ret_sii (by rw [HE.out]) (by rw [HE.out]), fun _ => ?_, hbr⟩
        rw [HE.out]
        dsimp only
        rw [drop_len s (by omega)]
        omega
      · have b1 : ((s[j].toNat : Int) == 34) = false := beq_eq_false_iff_ne.2 h34
        by_cases h92 : (s[j].toNat : Int) = 92
        · have b2 : ((s[j].toNat : Int) == 92) = true := by rw [h92]; rfl
          have HX := Lib.hid (And.intro h34 h92)
          clear h34 h92
          by_cases hlt' : j + 1 < s.size
          · have HD' := Lib.hid (drop_at hlt')
            have i3 : (0 : Int) ≤ (j : Int) + 1 := by omega
            have i4 : (j : Int) + 1 < (s.size : Int) := by omega
            have i5 : ((j : Int) + 1).toNat = j + 1 := by omega
            have n1 : ((j : Int) + 1 == (s.size : Int)) = false := by rw [beq_eq_false_iff_ne]; omega
            by_cases hd : (s[j + 1].toNat : Int) = 34 ∨ (s[j + 1].toNat : Int) = 92
            · have HE : Hid (readB (L ++ [s[j + 1]]) (s.data.toList.drop (j + 2)) = R) := by
                show _ = _
                rw [← HRD.out, HD.out, HD'.out, read_esc (by have := HX.out.1; omega) (by have := HX.out.2; omega) (by omega)]
              have HG : ∀ (Q : Prop), (((s[j + 1].toNat : Int) != 34) = false → Q) → (((s[j + 1].toNat : Int) != 34) = true → ((s[j + 1].toNat : Int) != 92) = false → Q) → Q := by
                intro Q h1 h2
                by_cases e : (s[j + 1].toNat : Int) = 34
                · exact h1 (by rw [e]; rfl)
                · exact h2 (by simpa using e) (by have : (s[j + 1].toNat : Int) = 92 := by omega
                                                  rw [this]; rfl)
              clear hd
              refine HG _ (fun h1 => ?_) (fun h1 h2 => ?_)
              all_goals
                clear HG
                go_wp2_with (at_builtin; first | refine wpList_pushW (fc := cellC) appBytes rfl (.tmp 39) (.tmp 43) rfl wr s[j + 1] L rfl (cellC_one _) _ rfl hO rfl (by omega) hsz ?_)
                intro v3 w3 hO3 hg3 ha3
                have hbg3 : Below w.heap.size wr w3 := below_of_grown hg3 hsz (fun g hg => (World.ownsRow.lt hO g hg).1)
                go_wp2_with fail
                go_roundw
                case rel => exact ⟨j + 2, L ++ [s[j + 1]], by omega, by go_num, HE.out, by simp; omega, hO3, hbr.trans hbg3⟩
                case measure => simp [intOf]; omega
            · have HE : Hid (R = (3, [], [])) := by
                show _ = _
                rw [← HRD.out, HD.out, HD'.out, read_bad (by have := HX.out.1; omega) (by have := HX.out.2; omega) (by omega)]
              have b3 : ((s[j + 1].toNat : Int) != 34) = true := by simp; omega
              have b4 : ((s[j + 1].toNat : Int) != 92) = true := by simp; omega
              clear hd
              go_wp2_with fail
              go_ret3
              refine ⟨0, ret_sii (by rw [HE.out]) (by rw [HE.out]), fun h => ?_, hbr⟩
              rw [HE.out] at h
              cases h
          · have HE : Hid (R = (4, [], [])) := by
              show _ = _
              rw [← HRD.out, HD.out, drop_none hlt', read_bs (by have := HX.out.1; omega) (by have := HX.out.2; omega)]
            have n1 : ((j : Int) + 1 == (s.size : Int)) = true := by rw [beq_iff_eq]; omega
            go_wp2_with fail
            go_ret3
            refine ⟨0, ret_sii (by rw [HE.out]) (by rw [HE.out]), fun h => ?_, hbr⟩
            rw [HE.out] at h
            cases h
        · have b2 : ((s[j].toNat : Int) == 92) = false := beq_eq_false_iff_ne.2 h92
          have HE : Hid (readB (L ++ [s[j]]) (s.data.toList.drop (j + 1)) = R) := by
            show _ = _
            rw [← HRD.out, HD.out, read_one (by omega) (by omega)]
          clear h34 h92
          go_wp2_with (at_builtin; first | refine wpList_pushW (fc := cellC) appBytes rfl (.tmp 39) (.tmp 43) rfl wr s[j] L rfl (cellC_one _) _ rfl hO rfl (by omega) hsz ?_)
          intro v3 w3 hO3 hg3 ha3
          have hbg3 : Below w.heap.size wr w3 := below_of_grown hg3 hsz (fun g hg => (World.ownsRow.lt hO g hg).1)
          go_wp2_with fail
          go_roundw
          case rel => exact ⟨j + 1, L ++ [s[j]], by omega, by go_num, HE.out, by simp; omega, hO3, hbr.trans hbg3⟩
          case measure => simp [intOf]; omega
    · have HE : Hid (R = (4, [], [])) := by
        show _ = _
        rw [← HRD.out, drop_none hlt, read_nil]
      go_wp2_with fail
      go_ret3
      refine ⟨0, ret_sii (by rw [HE.out]) (by rw [HE.out]), fun h => ?_, hbr⟩
      rw [HE.out] at h
      cases h
end Go.Proofs.YtoalecalahkblaaGreatDoor

namespace Go.Proofs.YtoalecalahkblaaGreatDoor
open Go.RowKit
theorem encode_digit {d : Nat} (h : d < 128) : Utf8.encode (d : Int) = ⟨#[UInt8.ofNat d]⟩ := by
  have hv : Utf8.valid (d : Int) = true := by
    unfold Utf8.valid
    simp; omega
  unfold Utf8.encode
  simp only [hv, if_true]
  rw [if_pos (by omega)]
  simp
def decS (n : Int) : ByteArray := ⟨(Lib.itoa n).toArray⟩
theorem dec_small {n : Int} (h1 : 0 ≤ n) (h2 : n ≤ 9) : Utf8.encode (48 + n) = decS n := by
  obtain ⟨u, rfl⟩ := Int.eq_ofNat_of_zero_le h1
  have := encode_digit (d := 48 + u) (by omega)
  rw [show (48 : Int) + (u : Int) = ((48 + u : Nat) : Int) by omega, this]
  unfold decS
  rw [Lib.itoa_nonneg, Lib.decDigits_one (by omega)]
theorem dec_smallneg {n : Int} (h1 : n < 0) (h2 : -9 ≤ n) : (⟨#[45]⟩ : ByteArray) ++ Utf8.encode (48 - n) = decS n := by
  obtain ⟨u, rfl⟩ : ∃ u : Nat, n = -(u : Int) := ⟨n.natAbs, by omega⟩
  have := encode_digit (d := 48 + u) (by omega)
  rw [show (48 : Int) - -(u : Int) = ((48 + u : Nat) : Int) by omega, this]
  unfold decS
  rw [Lib.itoa_neg u (by omega), Lib.decDigits_one (by omega)]
  rfl
theorem dec_step (u : Nat) (h : ¬ u < 10) : Lib.decDigits u = Lib.decDigits (u / 10) ++ [UInt8.ofNat (48 + u % 10)] := by rw [Lib.decDigits, dif_neg h]
theorem app_bytes (a b : List UInt8) : (⟨a.toArray⟩ : ByteArray) ++ ⟨b.toArray⟩ = ⟨(a ++ b).toArray⟩ := by
  have : ((⟨a.toArray⟩ : ByteArray) ++ ⟨b.toArray⟩).data = (a ++ b).toArray := by
    rw [ByteArray.data_append]; simp
  cases h : (⟨a.toArray⟩ : ByteArray) ++ ⟨b.toArray⟩
  rw [h] at this
  simp only at this
  rw [this]
theorem dec_big {n : Int} (h : 9 < n) : decS (Int.tdiv n 10) ++ Utf8.encode (48 + Int.tmod n 10) = decS n := by
  obtain ⟨u, rfl⟩ := Int.eq_ofNat_of_zero_le (show 0 ≤ n by omega)
  have e1 : Int.tdiv (u : Int) 10 = ((u / 10 : Nat) : Int) := by rw [Int.tdiv_eq_ediv_of_nonneg (by omega)]; omega
  have e2 : (48 : Int) + Int.tmod (u : Int) 10 = ((48 + u % 10 : Nat) : Int) := by rw [Int.tmod_eq_emod_of_nonneg (by omega)]; omega
  rw [e1, e2, encode_digit (by omega)]
  unfold decS
  rw [Lib.itoa_nonneg, Lib.itoa_nonneg, dec_step u (by omega)]
  exact app_bytes _ [_]
theorem dec_bigneg {n : Int} (h : n < -9) : decS (Int.tdiv n 10) ++ Utf8.encode (48 - Int.tmod n 10) = decS n := by
  obtain ⟨u, rfl⟩ : ∃ u : Nat, n = -(u : Int) := ⟨n.natAbs, by omega⟩
  have e1 : Int.tdiv (-(u : Int)) 10 = -((u / 10 : Nat) : Int) := by rw [Int.neg_tdiv, Int.tdiv_eq_ediv_of_nonneg (by omega)]; omega
  have e2 : (48 : Int) - Int.tmod (-(u : Int)) 10 = ((48 + u % 10 : Nat) : Int) := by rw [Int.neg_tmod, Int.tmod_eq_emod_of_nonneg (by omega)]; omega
  rw [e1, e2, encode_digit (by omega)]
  unfold decS
  rw [Lib.itoa_neg _ (by omega), Lib.itoa_neg u (by omega), dec_step u (by omega)]
  exact app_bytes (45 :: _) [_]
theorem ret_str {a b : ByteArray} (h : a = b) : Ending.returned (.string a) = .returned (.string b) := by rw [h]
theorem dec_size {n : Int} (h : Fit n) : (decS n).size ≤ 20 := by
  unfold Fit at h
  unfold decS ByteArray.size
  simp only [List.size_toArray]
  rcases Int.lt_or_le n 0 with h0 | h0
  · obtain ⟨u, rfl⟩ : ∃ u : Nat, n = -(u : Int) := ⟨n.natAbs, by omega⟩
    rw [Lib.itoa_neg u (by omega), List.length_cons, Lib.decDigits_length]
    have := nDigits_le (u := u) (k := 19) (by omega) (by omega)
    omega
  · obtain ⟨u, rfl⟩ := Int.eq_ofNat_of_zero_le h0
    rw [Lib.itoa_nonneg, Lib.decDigits_length]
    have := nDigits_le (u := u) (k := 19) (by omega) (by omega)
    omega
theorem enc_size {d : Int} (h0 : 0 ≤ d) (h : d < 128) : (Utf8.encode d).size = 1 := by
  obtain ⟨u, rfl⟩ := Int.eq_ofNat_of_zero_le h0
  rw [encode_digit (by omega)]; rfl
set_option maxHeartbeats 1000000 in
theorem decimal_at : ∀ (k : Nat) (n : Int) (w : World), n.natAbs ≤ k → Fit n → Calls Tryz.prog 133 #[.int .i64 n] w fun e w' => e = .returned (.string (decS n)) ∧ w = w' := by
  intro k
  induction k using Nat.strongRecOn with
  | _ k ih =>
    intro n w hk hf
    unfold Fit at hf
    obtain ⟨f1, f2⟩ := hf
    by_cases h0 : n < 0
    · by_cases h9 : n < -9
      · have hq : Int.tdiv n 10 = -((n.natAbs / 10 : Nat) : Int) := by
          rw [show n = -((n.natAbs : Nat) : Int) by omega, Int.neg_tdiv, Int.tdiv_eq_ediv_of_nonneg (by omega)]; omega
        have hr : Int.tmod n 10 = -((n.natAbs % 10 : Nat) : Int) := by
          rw [show n = -((n.natAbs : Nat) : Int) by omega, Int.neg_tmod, Int.tmod_eq_emod_of_nonneg (by omega)]; omega
        have HC := Lib.hid (fun W => ih (Int.tdiv n 10).natAbs (by rw [hq]; omega) (Int.tdiv n 10) W (Nat.le_refl _) (by rw [hq]; unfold Fit; omega))
        have HE := Lib.hid (dec_bigneg h9)
        have z1 := dec_size (n := Int.tdiv n 10) (by rw [hq]; unfold Fit; omega)
        have z2 := enc_size (d := 48 - Int.tmod n 10) (by rw [hr]; omega) (by rw [hr]; omega)
        have r1 : -9 ≤ Int.tmod n 10 := by rw [hr]; omega
        have r2 : Int.tmod n 10 ≤ 0 := by rw [hr]; omega
        have q1 : -922337203685477580 ≤ Int.tdiv n 10 := by rw [hq]; omega
        have q2 : Int.tdiv n 10 ≤ 0 := by rw [hq]; omega
        have w1 : IntKind.i64.wrap (Int.tdiv n 10) = Int.tdiv n 10 := IntWalk.i64_in _ (by omega)
        have w2 : IntKind.i64.wrap (Int.tmod n 10) = Int.tmod n 10 := IntWalk.i64_in _ (by omega)
        have w3 : IntKind.i64.wrap (48 - Int.tmod n 10) = 48 - Int.tmod n 10 := IntWalk.i64_in _ (by omega)
        clear ih hk hq hr
        go_enter Tryz.func133, Tryz.ntmps133
        go_wp2_with fail
        refine (HC.out _).mono ?_
        rintro e w' ⟨rfl, rfl⟩
        go_wp2_with fail
        go_ret
        exact ⟨ret_str HE.out, rfl⟩
      · have HE := Lib.hid (dec_smallneg h0 (by omega))
        have z1 : (⟨#[45]⟩ : ByteArray).size = 1 := rfl
        have z2 := enc_size (d := 48 - n) (by omega) (by omega)
        clear ih hk
        go_enter Tryz.func133, Tryz.ntmps133
        go_wp2_with fail
        go_ret
        exact ⟨ret_str HE.out, rfl⟩
    · by_cases h9 : 9 < n
      · have hq : Int.tdiv n 10 = ((n.natAbs / 10 : Nat) : Int) := by
          rw [Int.tdiv_eq_ediv_of_nonneg (by omega)]; omega
        have hr : Int.tmod n 10 = ((n.natAbs % 10 : Nat) : Int) := by
          rw [Int.tmod_eq_emod_of_nonneg (by omega)]; omega
        have HC := Lib.hid (fun W => ih (Int.tdiv n 10).natAbs (by rw [hq]; omega) (Int.tdiv n 10) W (Nat.le_refl _) (by rw [hq]; unfold Fit; omega))
        have em : Int.tmod n 10 = n % 10 := Int.tmod_eq_emod_of_nonneg (by omega)
        have HE0 := dec_big h9
        rw [em] at HE0 hr
        have HE := Lib.hid HE0
        have z1 := dec_size (n := Int.tdiv n 10) (by rw [hq]; unfold Fit; omega)
        have z2 := enc_size (d := 48 + n % 10) (by rw [hr]; omega) (by rw [hr]; omega)
        have r1 : 0 ≤ n % 10 := by rw [hr]; omega
        have r2 : n % 10 ≤ 9 := by rw [hr]; omega
        have q1 : 0 ≤ Int.tdiv n 10 := by rw [hq]; omega
        have q2 : Int.tdiv n 10 ≤ 922337203685477580 := by rw [hq]; omega
        have w1 : IntKind.i64.wrap (Int.tdiv n 10) = Int.tdiv n 10 := IntWalk.i64_in _ (by omega)
        have w2 : IntKind.i64.wrap (n % 10) = n % 10 := IntWalk.i64_in _ (by omega)
        have w3 : IntKind.i64.wrap (48 + n % 10) = 48 + n % 10 := IntWalk.i64_in _ (by omega)
        clear ih hk hq hr em HE0
        go_enter Tryz.func133, Tryz.ntmps133
        go_wp2_with fail
        refine (HC.out _).mono ?_
        rintro e w' ⟨rfl, rfl⟩
        go_wp2_with fail
        go_ret
        exact ⟨ret_str HE.out, rfl⟩
      · have HE := Lib.hid (dec_small (n := n) (by omega) (by omega))
        clear ih hk
        go_enter Tryz.func133, Tryz.ntmps133
        go_wp2_with fail
        go_ret
        exact ⟨ret_str HE.out, rfl⟩
theorem decimal_any (n : Int) (w : World) (hf : Fit n) : Calls Tryz.prog 133 #[.int .i64 n] w fun e w' => e = .returned (.string (decS n)) ∧ w = w' := decimal_at _ n w (Nat.le_refl _) hf
end Go.Proofs.YtoalecalahkblaaGreatDoor
