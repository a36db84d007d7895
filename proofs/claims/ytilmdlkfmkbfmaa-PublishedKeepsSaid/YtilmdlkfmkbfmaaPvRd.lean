/- Words with counts in memory. -/
import Derived.Test.YtilmdlkfmkbfmaaPvSpec
import Derived.Test.YtilmdlkfmkbfmaaOwnW
import Derived.Test.YtilmdlkfmkbfmaaGrowV
import Derived.Test.YtilmdlkfmkbfmaaChgS
import Derived.Test.YtilmdlkfmkbfmaaEqualS
set_option linter.all false
namespace Go.Proofs.Ytilmdlkfmkbfmaa
open Go.RowKit

def RVr : ElemR Vr := fun D w x cs => ∃ sv, cs = [sv, .int .i64 x.n] ∧ Fit x.n ∧ SlS D w sv x.acts
theorem RVr.kept : ElemR.Kept RVr := by
  rintro D D' w w' x cs hd hs ⟨sv, rfl, h1, h2⟩
  exact ⟨sv, rfl, h1, Sl.keep h2 RStr.kept hd hs⟩
def SlVr := Sl 2 RVr
section
variable {D D' : Nat → Prop} {w w' : World} {u v : Value} {zs : List Vr}
theorem SlVr.now (h : SlVr (Lt w.heap.size) w u zs) (hb : Below w.heap.size w w') : SlVr (Lt w'.heap.size) w' u zs := Sl.below h RVr.kept hb hb.size
theorem SlVr.below {B B' : Nat} (h : SlVr (Lt B) w u zs) (hb : Below B w w') (hB : B ≤ B') : SlVr (Lt B') w' u zs := Sl.below h RVr.kept hb hB
theorem SlVr.open_ (h : SlVr D w u zs) : ∃ A c, u = .slice A zs.length c ∧ zs.length ≤ c ∧ c ≤ 9223372036854775807 ∧ SlVr D w (.slice A zs.length c) zs := Sl.open_ h
theorem SlVr.at_ {A : Option Addr} {n c k : Nat} (h : SlVr D w (.slice A n c) zs) (hk : k < n) :
    ∃ b o x sv, A = some ⟨b, o, none⟩ ∧ D b ∧ zs[k]? = some x ∧ Fit x.n ∧ SlS D w sv x.acts ∧ w.cell? ⟨b, o + k * 2, none⟩ = some sv ∧ w.cell? ⟨b, o + k * 2 + 1, none⟩ = some (.int .i64 x.n) := by
  obtain ⟨b, o, x, u0, u1, hA, hD, hx, ⟨sv, hu, hf, hs⟩, h0, h1⟩ := Sl.at2 h hk
  injection hu with e0 hu; injection hu with e1 hu
  subst e0 e1
  exact ⟨b, o, x, u0, hA, hD, hx, hf, hs, h0, h1⟩
theorem SlS.one {xs : List ByteArray} (h : SlS D w v xs) : v.oneCell' = true := by
  obtain ⟨A, c, rfl, _⟩ := h; rfl
end
/-- A row of the call's own. -/
abbrev PrV := Vr × Value
def cellV (p : PrV) : List Value := [p.2, .int .i64 p.1.n]
def OwnV (t : TypeId) (w : World) (base : Nat) (D : Nat → Prop) (v : Value) (xs : List Vr) : Prop := ∃ ps : List PrV, ps.map (·.1) = xs ∧ OwnW 2 cellV w base t v ps ∧ ∀ p ∈ ps, Fit p.1.n ∧ SlS D w p.2 p.1.acts
section
variable {t : TypeId} {D D' : Nat → Prop} {w w' : World} {base : Nat} {v : Value} {xs : List Vr}
theorem OwnV.nil : OwnV t w base D (.slice none 0 0) [] := ⟨[], rfl, OwnW.nil, by simp⟩
theorem OwnV.isSlice (h : OwnV t w base D v xs) : ∃ A c, v = .slice A xs.length c := by
  obtain ⟨ps, rfl, h1, _⟩ := h
  rw [List.length_map]
  rcases h1.2 with ⟨rfl, h0⟩ | ⟨g, cap, cur, rfl, _⟩
  · exact ⟨none, 0, by rw [h0]⟩
  · exact ⟨some ⟨g, 0, none⟩, cap, rfl⟩
theorem OwnV.sl (h : OwnV t w base D v xs) (hD : ∀ b, D b → b < w.heap.size) : SlVr (Lt w.heap.size) w v xs := by
  obtain ⟨ps, rfl, h1, h2⟩ := h
  have h3 : Sl 2 (fun _ _ (p : PrV) cs => cs = cellV p) (Lt w.heap.size) w v ps := OwnW.sl h1 (fun _ => rfl) (fun _ _ _ _ => rfl)
  obtain ⟨A, c, rfl, g1, g2, g3⟩ := h3
  refine ⟨A, c, by simp, by simpa using g1, g2, fun i x hx => ?_⟩
  rw [List.getElem?_map, Option.map_eq_some_iff] at hx
  obtain ⟨p, hp, rfl⟩ := hx
  obtain ⟨b, o, cs, hA, hD', hl, rfl, hc⟩ := g3 i p hp
  obtain ⟨f1, f2⟩ := h2 p (List.mem_of_getElem? hp)
  exact ⟨b, o, _, hA, hD', hl, ⟨_, rfl, f1, Sl.keep f2 RStr.kept hD (Same.refl _ _)⟩, hc⟩
theorem OwnV.mono (h : OwnV t w base D v xs) (hD : ∀ b, D b → D' b) : OwnV t w base D' v xs := by
  obtain ⟨ps, e, h1, h2⟩ := h
  exact ⟨ps, e, h1, fun p hp => ⟨(h2 p hp).1, Sl.keep (h2 p hp).2 RStr.kept hD (Same.refl _ _)⟩⟩
theorem OwnV.keep (h : OwnV t w base D v xs) (hr : ∀ g, v.ownBlock = some g → w'.heap[g]? = w.heap[g]?) (hs : Same D w w') : OwnV t w' base D v xs := by
  obtain ⟨ps, e, h1, h2⟩ := h
  refine ⟨ps, e, ?_, fun p hp => ⟨(h2 p hp).1, Sl.keep (h2 p hp).2 RStr.kept (fun _ => id) hs⟩⟩
  obtain ⟨l1, h1⟩ := h1
  refine ⟨l1, ?_⟩
  rcases h1 with h1 | ⟨g, cap, cur, rfl, a1, a2, a3⟩
  · exact .inl h1
  · exact .inr ⟨g, cap, cur, rfl, a1, (hr g rfl).trans a2, a3⟩
theorem OwnV.lt (h : OwnV t w base D v xs) : ∀ g, v.ownBlock = some g → base ≤ g ∧ g < w.heap.size := by
  obtain ⟨ps, e, h1, h2⟩ := h
  exact World.ownsRow.lt h1
theorem OwnV.now (h : OwnV t w base D v xs) (hb : Below w.heap.size w w') (hD : ∀ b, D b → b < w.heap.size) : OwnV t w' base D v xs :=
  h.keep (fun g hg => hb.block g (h.lt g hg).2) (fun b hb' => hb.block b (hD b hb'))
end
theorem wpList_pushV {t e : TypeId} {P : Program} {ops : Array Oper} {rest : List Oper} {o : Oper} {a : Act} {Q : Exit → Act → World → Prop} (hI : AppInfo P t e 2) (hgd : o.guard = none) (s x : Operand)
    (ho : o.op = .call { callee := .builtin .append, args := #[s, x], argTypes := #[t, t] }) (w0 : World) (y : Vr) (sv : Value) {base : Nat} {D : Nat → Prop} (xs : List Vr) (hy : Fit y.n) (hsv : SlS D w0 sv y.acts)
    (v : Value) (hs : a.eval s = v) (hown : OwnV e w0 base D v xs) (hx : a.eval x = .slice (some ⟨w0.heap.size, 0, none⟩) 1 1) (hn : xs.length < 10000000) (hbase : base ≤ w0.heap.size) (hD : ∀ b, D b → b < base)
    (h : ∀ v' w', OwnV e w' base D v' (xs ++ [y]) → w0.grownBy w' v.ownBlock → wpList P ops Q rest (a.put o.dst v') w') : wpList P ops Q (o :: rest) a (w0.alloc (.cells #[sv, .int .i64 y.n] e)) := by
  obtain ⟨ps, rfl, h1, h2⟩ := hown
  rw [List.length_map] at hn
  refine wpList_pushW (fc := cellV) hI hgd s x ho w0 (y, sv) ps rfl (fun u hu => ?_) v hs h1 hx hn hbase fun v' w' g1 g2 g3 => ?_
  · simp [cellV] at hu
    rcases hu with rfl | rfl
    · exact SlS.one hsv
    · rfl
  · have hk : Same D w0 w' := fun b hb => g2.block b (Nat.lt_of_lt_of_le (hD b hb) hbase) (fun e => by
      have := (World.ownsRow.lt h1 b e.symm).1
      have := hD b hb
      omega)
    refine h v' w' ⟨ps ++ [(y, sv)], by simp, g1, fun p hp => ?_⟩ g2
    rcases List.mem_append.1 hp with hp | hp
    · exact ⟨(h2 p hp).1, Sl.keep (h2 p hp).2 RStr.kept (fun _ => id) hk⟩
    · simp at hp; subst hp
      exact ⟨hy, Sl.keep hsv RStr.kept (fun _ => id) hk⟩
end Go.Proofs.Ytilmdlkfmkbfmaa
