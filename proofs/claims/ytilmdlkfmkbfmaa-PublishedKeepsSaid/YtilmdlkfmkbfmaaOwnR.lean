/- Rows of the call's own whose elements hold slices of their own. No program in sight. -/
import Derived.Test.YtilmdlkfmkbfmaaOwn
set_option linter.all false
namespace Go.Proofs.Ytilmdlkfmkbfmaa
open Go.RowKit

/-- The blocks that an element of such a row may lie in: not the row's own, and none of those that are written. -/
def Off (X : Nat → Prop) (w : World) (v : Value) (b : Nat) : Prop := b < w.heap.size ∧ v.ownBlock ≠ some b ∧ ¬ X b

def OwnR {α : Type} (size : Nat) (R : ElemR α) (X : Nat → Prop) (w : World) (base t : Nat) (v : Value) (xs : List α) : Prop :=
  ∃ cs, w.ownsRow base t size v xs.length cs ∧ ∀ (i : Nat) (x : α), xs[i]? = some x → ∃ es : List Value, es.length = size ∧ (∀ j u, es[j]? = some u → cs[i * size + j]? = some u) ∧ R (Off X w v) w x es

section
variable {α : Type} {size : Nat} {R : ElemR α} {X : Nat → Prop} {w w' : World} {base t : Nat} {v v' : Value} {xs : List α}
theorem OwnR.nil : OwnR size R X w base t (.slice none 0 0) ([] : List α) := ⟨[], World.ownsRow_nil _ _ _ _, fun i x hx => by simp at hx⟩
theorem OwnR.lt (h : OwnR size R X w base t v xs) : ∀ g, v.ownBlock = some g → base ≤ g ∧ g < w.heap.size := by
  obtain ⟨cs, h, _⟩ := h
  exact h.lt
theorem OwnR.sl (h : OwnR size R X w base t v xs) (hR : ElemR.Kept R) : Sl size R (Lt w.heap.size) w v xs := by
  obtain ⟨cs, h, he⟩ := h
  refine Sl.of_own h rfl (own_lt h) fun i x hx => ?_
  obtain ⟨es, h1, h2, h3⟩ := he i x hx
  exact ⟨es, h1, h2, hR _ _ _ _ _ _ (fun b hb => hb.1) (Same.refl _ _) h3⟩
theorem OwnR.open_ (h : OwnR size R X w base t v xs) : ∃ A c, v = .slice A xs.length c := by
  obtain ⟨cs, h, _⟩ := h
  rcases h.2 with ⟨rfl, h0⟩ | ⟨g, cap, cur, rfl, _⟩
  · exact ⟨none, 0, by rw [h0]⟩
  · exact ⟨_, _, rfl⟩
theorem OwnR.grown {row : Option Nat} (h : OwnR size R X w base t v xs) (hR : ElemR.Kept R) (hb : w.grownBy w' row) (hr : ∀ g, row = some g → X g ∧ v.ownBlock ≠ some g) : OwnR size R X w' base t v xs := by
  obtain ⟨cs, h, he⟩ := h
  refine ⟨cs, h.kept hb ?_, fun i x hx => ?_⟩
  · cases e : v.ownBlock with
    | none => exact .inl rfl
    | some g => exact .inr (fun h' => (hr g h'.symm).2 e)
  · obtain ⟨es, h1, h2, h3⟩ := he i x hx
    refine ⟨es, h1, h2, hR _ _ _ _ _ _ (fun b hb' => ⟨Nat.lt_of_lt_of_le hb'.1 hb.size, hb'.2⟩) (fun b hb' => hb.block b hb'.1 ?_) h3⟩
    exact fun e => hb'.2.2 (hr b e.symm).1
theorem OwnR.now (h : OwnR size R X w base t v xs) (hR : ElemR.Kept R) (hb : Below w.heap.size w w') : OwnR size R X w' base t v xs :=
  h.grown hR (grown_of_below hb none) (fun _ e => by cases e)
theorem OwnR.drewN (h : OwnR size R X w base t v xs) (hR : ElemR.Kept R) (q : Nat) : OwnR size R X (w.drewN q) base t v xs := h.now hR (bdrawn (Below.refl _ _) q)
theorem OwnR.far (h : OwnR size R X w base t v xs) (hR : ElemR.Kept R) {p : Addr} (hX : X p.block) (hv : v.ownBlock ≠ some p.block) (u : Value) : OwnR size R X (w.setCell p u) base t v xs :=
  h.grown hR (row := some p.block) ⟨rfl, rfl, rfl, by simp, fun i _ hne => Below.heap_setCell w p u i (fun e => hne (by rw [e]))⟩ (fun g e => by injection e with e; subst e; exact ⟨hX, hv⟩)
theorem OwnR.pushed {x : α} {es cs : List Value} (h : w.ownsRow base t size v xs.length cs) (he : ∀ (i : Nat) (x : α), xs[i]? = some x → ∃ es : List Value, es.length = size ∧ (∀ j u, es[j]? = some u → cs[i * size + j]? = some u) ∧ R (Off X w v) w x es)
    (hR : ElemR.Kept R) (hl : es.length = size) (hx : R (Off X w v) w x es)
    (ho : w'.ownsRow base t size v' (xs.length + 1) (cs ++ es)) (hg : w.grownBy w' v.ownBlock) (hat : v'.ownBlock = v.ownBlock ∨ v'.ownBlock = some (w.heap.size + 1)) : OwnR size R X w' base t v' (xs ++ [x]) := by
  have keep : ∀ y cs, R (Off X w v) w y cs → R (Off X w' v') w' y cs := fun y cs hy =>
    hR _ _ _ _ _ _ (fun b hb => ⟨Nat.lt_of_lt_of_le hb.1 hg.size, (by rcases hat with e | e
                                                                      · rw [e]; exact hb.2.1
                                                                      · rw [e]; intro e'; injection e' with e'; have := hb.1; omega), hb.2.2⟩)
      (fun b hb => hg.block b hb.1 (fun e => hb.2.1 e.symm)) hy
  refine ⟨cs ++ es, by simpa using ho, fun i y hy => ?_⟩
  rcases Nat.lt_or_ge i xs.length with hi | hi
  · rw [List.getElem?_append_left hi] at hy
    obtain ⟨es', h1, h2, h3⟩ := he i y hy
    refine ⟨es', h1, fun j u hu => ?_, keep _ _ h3⟩
    have := h2 j u hu
    rw [List.getElem?_append_left]
    · exact this
    · rcases Nat.lt_or_ge (i * size + j) cs.length with h' | h'
      · exact h'
      · rw [List.getElem?_eq_none h'] at this; cases this
  · rw [List.getElem?_append_right hi] at hy
    have hi0 : i - xs.length = 0 := by
      rcases Nat.eq_zero_or_pos (i - xs.length) with h' | h'
      · exact h'
      · rw [List.getElem?_eq_none (by simpa using Nat.succ_le_of_lt h')] at hy; cases hy
    rw [hi0] at hy
    injection hy with hy
    subst hy
    obtain rfl : i = xs.length := by omega
    refine ⟨es, hl, fun j u hu => ?_, keep _ _ hx⟩
    have hc : cs.length = xs.length * size := h.1
    rw [List.getElem?_append_right (by omega), hc, Nat.add_sub_cancel_left]
    exact hu
end

section
variable {P : Program} {t e size base : Nat} {α : Type} {R : ElemR α} {X : Nat → Prop}
theorem wp_pushR {o : Oper} {a : Act} {K : Act → World → Prop} {Q : Exit → Act → World → Prop} (hI : AppInfo P t e size) (hR : ElemR.Kept R) (s x : Operand)
    (ho : o.op = .call { callee := .builtin .append, args := #[s, x], argTypes := #[t, t] }) (w0 : World) (es : List Value) (hes : es.length = size) (h1 : ∀ u ∈ es, u.oneCell' = true)
    (v : Value) (xs : List α) (y : α) (hs : a.eval s = v) (hown : OwnR size R X w0 base e v xs) (hy : R (Off X w0 v) w0 y es) (hx : a.eval x = .slice (some ⟨w0.heap.size, 0, none⟩) 1 1) (hn : xs.length < 10000000) (hbase : base ≤ w0.heap.size)
    (h : ∀ v' w', OwnR size R X w' base e v' (xs ++ [y]) → w0.grownBy w' v.ownBlock → (v'.ownBlock = v.ownBlock ∨ v'.ownBlock = some (w0.heap.size + 1)) → K (a.put o.dst v') w') : o.wp P a (w0.alloc (.cells es.toArray e)) K Q := by
  obtain ⟨cs, h2, h3⟩ := hown
  exact wp_push hI s x ho w0 es hes h1 v xs.length cs hs h2 hx hn hbase fun v' w' a1 a2 a3 => h v' w' (OwnR.pushed h2 h3 hR hes hy a1 a2 a3) a2 a3
theorem wpList_pushR {ops : Array Oper} {rest : List Oper} {o : Oper} {a : Act} {Q : Exit → Act → World → Prop} (hI : AppInfo P t e size) (hR : ElemR.Kept R) (hgd : o.guard = none) (s x : Operand)
    (ho : o.op = .call { callee := .builtin .append, args := #[s, x], argTypes := #[t, t] }) (w0 : World) (es : List Value) (hes : es.length = size) (h1 : ∀ u ∈ es, u.oneCell' = true)
    (v : Value) (xs : List α) (y : α) (hs : a.eval s = v) (hown : OwnR size R X w0 base e v xs) (hy : R (Off X w0 v) w0 y es) (hx : a.eval x = .slice (some ⟨w0.heap.size, 0, none⟩) 1 1) (hn : xs.length < 10000000) (hbase : base ≤ w0.heap.size)
    (h : ∀ v' w', OwnR size R X w' base e v' (xs ++ [y]) → w0.grownBy w' v.ownBlock → (v'.ownBlock = v.ownBlock ∨ v'.ownBlock = some (w0.heap.size + 1)) → wpList P ops Q rest (a.put o.dst v') w') : wpList P ops Q (o :: rest) a (w0.alloc (.cells es.toArray e)) :=
  wpList_plain hgd fun _ hK => wp_pushR hI hR s x ho w0 es hes h1 v xs y hs hown hy hx hn hbase fun v' w' h2 h3 h4 => hK _ _ (h v' w' h2 h3 h4)
theorem step_pushR {ops : Array Oper} {o : Oper} {a : Act} {K : Act → World → Prop} {Q : Exit → Act → World → Prop} {E : Prop} (hI : AppInfo P t e size) (hR : ElemR.Kept R) (hgd : o.guard = none) (s x : Operand)
    (ho : o.op = .call { callee := .builtin .append, args := #[s, x], argTypes := #[t, t] }) (w0 : World) (es : List Value) (hes : es.length = size) (h1 : ∀ u ∈ es, u.oneCell' = true)
    (v : Value) (xs : List α) (y : α) (hs : a.eval s = v) (hown : OwnR size R X w0 base e v xs) (hy : R (Off X w0 v) w0 y es) (hx : a.eval x = .slice (some ⟨w0.heap.size, 0, none⟩) 1 1) (hn : xs.length < 10000000) (hbase : base ≤ w0.heap.size)
    (h : ∀ v' w', OwnR size R X w' base e v' (xs ++ [y]) → w0.grownBy w' v.ownBlock → (v'.ownBlock = v.ownBlock ∨ v'.ownBlock = some (w0.heap.size + 1)) → K (a.put o.dst v') w') :
    if Region.wanted o (yielded ops a.tmps) = true then Oper.wp P o a (w0.alloc (.cells es.toArray e)) K Q else E := by
  have hw : Region.wanted o (yielded ops a.tmps) = true := by simp [Region.wanted, hgd]
  rw [if_pos hw]
  exact wp_pushR hI hR s x ho w0 es hes h1 v xs y hs hown hy hx hn hbase h
end
end Go.Proofs.Ytilmdlkfmkbfmaa
