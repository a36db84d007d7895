/- An array of rows of numbers that a call makes, each row grown by itself. No program in sight. -/
import Derived.Test.YtlkkfkkhllijbaaDoorOwnF
namespace Go.Proofs.YtlkkfkkhllijbaaDoor
open Go.RowKit

def idV (v : Value) : Value := v
/-- Block G holds one slice for each row; each row owns cells of its own. -/
structure Grp (w : World) (base G cap T E : Nat) (vs : List Value) (rows : List (List Int)) : Prop where
  out : OwnF idV w base T G cap vs
  len : vs.length = rows.length
  row : ∀ (i : Nat) (v : Value) (r : List Int), vs[i]? = some v → rows[i]? = some r → w.ownsRow base E 1 v r.length (r.map (Value.int .i64))
  dis : ∀ (i j : Nat) (v v' : Value) (g : Nat), i ≠ j → vs[i]? = some v → vs[j]? = some v' → v.ownBlock = some g → v'.ownBlock ≠ some g
  off : ∀ (i : Nat) (v : Value), vs[i]? = some v → v.ownBlock ≠ some G
section
variable {w w' : World} {base G cap T E : Nat} {vs : List Value} {rows : List (List Int)}
theorem Grp.now (h : Grp w base G cap T E vs rows) (hb : Below w.heap.size w w') : Grp w' base G cap T E vs rows :=
  ⟨h.out.now hb, h.len, fun i v r hv hr => own_now (h.row i v r hv hr) hb, h.dis, h.off⟩
theorem Grp.made (w : World) (T E n : Nat) (hn : n ≤ maxLen) : Grp (w.alloc (.cells (madeCells #[.slice none 0 0] n) T)) w.heap.size w.heap.size n T E (List.replicate n (.slice none 0 0)) (List.replicate n []) := by
  refine ⟨OwnF.made (f := idV) w T n (.slice none 0 0) hn, by simp, fun i v r hv hr => ?_, fun i j v v' g _ hv _ hg => ?_, fun i v hv => ?_⟩
  · rw [List.getElem?_replicate] at hv hr
    split at hv
    · injection hv with hv
      rw [if_pos (by assumption)] at hr
      injection hr with hr
      subst hv hr
      exact World.ownsRow_nil _ _ _ _
    · cases hv
  · rw [List.getElem?_replicate] at hv
    split at hv
    · injection hv with hv; subst hv; cases hg
    · cases hv
  · rw [List.getElem?_replicate] at hv
    split at hv
    · injection hv with hv; subst hv; intro h; cases h
    · cases hv
theorem Grp.cell (h : Grp w base G cap T E vs rows) {i : Nat} {v : Value} (hv : vs[i]? = some v) : w.cell? ⟨G, i, none⟩ = some v := h.out.cell hv
theorem Grp.frozen (h : Grp w base G cap T E vs rows) (i : Nat) : w.frozen? ⟨G, i, none⟩ = false := h.out.frozen i
theorem Grp.at_ (h : Grp w base G cap T E vs rows) {i : Nat} (hi : i < rows.length) : ∃ A c r, rows[i]? = some r ∧ vs[i]? = some (.slice A r.length c) ∧ w.ownsRow base E 1 (.slice A r.length c) r.length (r.map (Value.int .i64)) := by
  have hi' : i < vs.length := by rw [h.len]; exact hi
  have h1 := h.row i _ _ (List.getElem?_eq_getElem hi') (List.getElem?_eq_getElem hi)
  have h2 : ∃ A c, vs[i] = .slice A rows[i].length c := by
    rcases h1.2 with ⟨e, e0⟩ | ⟨g, c, cur, e, _⟩
    · exact ⟨none, 0, by rw [e, e0]⟩
    · exact ⟨_, _, e⟩
  obtain ⟨A, c, e⟩ := h2
  exact ⟨A, c, rows[i], List.getElem?_eq_getElem hi, by rw [List.getElem?_eq_getElem hi', e], by rw [← e]; exact h1⟩
theorem set_get {α : Type} {l : List α} {i j : Nat} {x y : α} (h : (l.set i x)[j]? = some y) : (i = j ∧ y = x) ∨ (i ≠ j ∧ l[j]? = some y) := by
  rw [List.getElem?_set] at h
  split at h
  · rename_i e
    split at h
    · injection h with h; exact .inl ⟨e, h.symm⟩
    · cases h
  · rename_i e; exact .inr ⟨e, h⟩
/-- Row i has got one number more, and its slice has been stored. -/
theorem Grp.push (h : Grp w base G cap T E vs rows) {i : Nat} {v v' : Value} {r : List Int} {z : Int} (hv : vs[i]? = some v) (hr : rows[i]? = some r)
    (hown : w'.ownsRow base E 1 v' (r.length + 1) (r.map (Value.int .i64) ++ [.int .i64 z])) (hg : w.grownBy w' v.ownBlock) (hat : v'.ownBlock = v.ownBlock ∨ v'.ownBlock = some (w.heap.size + 1)) :
    Grp (w'.setCell ⟨G, i, none⟩ v') base G cap T E (vs.set i v') (rows.set i (r ++ [z])) := by
  have hGl := h.out.lt
  have hGf := h.out.from_
  have hGw : OwnF idV w' base T G cap vs := by
    refine ⟨h.out.1.kept hg ?_, Nat.lt_of_lt_of_le h.out.2.1 hg.size, h.out.2.2⟩
    cases e : v.ownBlock with
    | none => exact .inr (fun e2 => by cases e2)
    | some g =>
      refine .inr ?_
      intro e2
      have : (Value.slice (some ⟨G, 0, none⟩) vs.length cap).ownBlock = some G := rfl
      rw [this] at e2
      injection e2 with e2
      exact h.off i v hv (by rw [e, e2])
  have hv'G : v'.ownBlock ≠ some G := by
    rcases hat with e | e
    · rw [e]; exact h.off i v hv
    · rw [e]; intro e2; injection e2 with e2; omega
  have hnew : ∀ (m : Nat) (y : Value), vs[m]? = some y → y.ownBlock ≠ some (w.heap.size + 1) := fun m y hm e => by
    have hml : m < rows.length := by rw [← h.len]; exact (List.getElem?_eq_some_iff.1 hm).1
    have := ((h.row m y _ hm (List.getElem?_eq_getElem hml)).lt _ e).2
    omega
  refine ⟨hGw.set_ i v', by rw [List.length_set, List.length_set]; exact h.len, fun j x s hx hs => ?_, fun j k x y g hjk hx hy hgx => ?_, fun j x hx => ?_⟩
  · rcases set_get hx with ⟨ei, ex⟩ | ⟨hij, hx1⟩
    · rcases set_get hs with ⟨_, es⟩ | ⟨hne, _⟩
      · rw [es, ex]
        have e : (r ++ [z]).length = r.length + 1 := by simp
        rw [e, List.map_append]
        exact ownsRow_setCell_other hown hv'G _
      · exact absurd ei hne
    · rcases set_get hs with ⟨ei, _⟩ | ⟨_, hs1⟩
      · exact absurd ei hij
      · have h1 := h.row j x s hx1 hs1
        refine ownsRow_setCell_other (h1.kept hg ?_) (h.off j x hx1) v'
        cases e : v.ownBlock with
        | none =>
          rcases Classical.em (x.ownBlock = none) with e0 | e0
          · exact .inl e0
          · exact .inr e0
        | some g => exact .inr fun e2 => h.dis i j v x g hij hv hx1 e e2
  · rcases set_get hx with ⟨ei, ex⟩ | ⟨hij, hx1⟩
    · rcases set_get hy with ⟨ei2, _⟩ | ⟨hik, hy1⟩
      · exact absurd (ei.symm.trans ei2) hjk
      · rw [ex] at hgx
        rcases hat with e | e
        · rw [e] at hgx; exact h.dis _ _ v y g hik hv hy1 hgx
        · rw [e] at hgx; rw [← hgx]; exact hnew k y hy1
    · rcases set_get hy with ⟨ei, ey⟩ | ⟨hik, hy1⟩
      · rw [ey]
        rcases hat with e | e
        · rw [e]; exact h.dis _ _ x v g (fun e => hij e.symm) hx1 hv hgx
        · rw [e]; intro e2; rw [← e2] at hgx; exact hnew j x hx1 hgx
      · exact h.dis j k x y g hjk hx1 hy1 hgx
  · rcases set_get hx with ⟨_, ex⟩ | ⟨_, hx1⟩
    · rw [ex]; exact hv'G
    · exact h.off j x hx1
theorem Grp.slII (h : Grp w base G cap T E vs rows) (hf : ∀ r ∈ rows, ∀ z ∈ r, Fit z) : SlII (Lt w.heap.size) w (.slice (some ⟨G, 0, none⟩) rows.length cap) rows := by
  have h1 := h.out.1
  rw [h.len] at h1
  refine Sl.of_own1 h1 rfl (own_lt h1) fun i x hx => ?_
  have hi : i < vs.length := by rw [h.len]; exact (List.getElem?_eq_some_iff.1 hx).1
  refine ⟨vs[i], by rw [List.getElem?_map, List.getElem?_eq_getElem hi]; rfl, vs[i], rfl, ?_⟩
  have h2 := h.row i _ _ (List.getElem?_eq_getElem hi) hx
  exact SlI.of_own h2 (hf x (List.mem_of_getElem? hx))
theorem Grp.slIIF (h : Grp w base G cap T E vs rows) (hf : ∀ r ∈ rows, ∀ z ∈ r, Fit z) {B : Nat} (hB : B ≤ base) : SlII (fun b => B ≤ b ∧ b < w.heap.size) w (.slice (some ⟨G, 0, none⟩) rows.length cap) rows := by
  have h1 := h.out.1
  rw [h.len] at h1
  refine Sl.of_own1 h1 rfl (fun g hg => ⟨Nat.le_trans hB (h1.lt g hg).1, (h1.lt g hg).2⟩) fun i x hx => ?_
  have hi : i < vs.length := by rw [h.len]; exact (List.getElem?_eq_some_iff.1 hx).1
  refine ⟨vs[i], by rw [List.getElem?_map, List.getElem?_eq_getElem hi]; rfl, vs[i], rfl, ?_⟩
  have h2 := h.row i _ _ (List.getElem?_eq_getElem hi) hx
  exact Sl.of_own1 h2 rfl (fun g hg => ⟨Nat.le_trans hB (h2.lt g hg).1, (h2.lt g hg).2⟩) fun j y hy => ⟨.int .i64 y, by simp [hy], rfl, hf x (List.mem_of_getElem? hx) y (List.mem_of_getElem? hy)⟩
theorem Grp.below (h : Grp w base G cap T E vs rows) {B i : Nat} {v v' : Value} (hv : vs[i]? = some v) (hg : w.grownBy w' v.ownBlock) (hB : B ≤ base) (hbw : B ≤ w.heap.size) : Below B w (w'.setCell ⟨G, i, none⟩ v') := by
  refine Below.setCell (p := ⟨G, i, none⟩) (below_of_grown hg hbw fun g hgg => ?_) (by show B ≤ G; have := h.out.from_; omega) v'
  have hi : i < rows.length := by rw [← h.len]; exact (List.getElem?_eq_some_iff.1 hv).1
  have := ((h.row i v _ hv (List.getElem?_eq_getElem hi)).lt g hgg).1
  omega
end
end Go.Proofs.YtlkkfkkhllijbaaDoor
