/- Graphs as lists of pairs of vertices: edges, the rows of ends. No program in sight. -/
import Derived.Test.YtlkkfkkhllijbaaDoorOwnW
import Derived.Test.YtlkkfkkhllijbaaDoorOwnF
import Derived.Test.YtlkkfkkhllijbaaDoorGrp
import Derived.Test.YtlkkfkkhllijbaaDoorStrongP
namespace Go.Proofs.YtlkkfkkhllijbaaDoor
open Go.RowKit

def arcV (e : Nat × Nat) : List Value := [.int .i64 (e.1 : Int), .int .i64 (e.2 : Int)]
def RArc : ElemR (Nat × Nat) := fun _ _ e cs => cs = arcV e
theorem RArc.kept : ElemR.Kept RArc := fun _ _ _ _ _ _ _ _ h => h
def SlE := Sl 2 RArc
theorem SlE.now {w w' : World} {v : Value} {es : List (Nat × Nat)} (h : SlE (Lt w.heap.size) w v es) (hb : Below w.heap.size w w') : SlE (Lt w'.heap.size) w' v es := Sl.below h RArc.kept hb hb.size
theorem SlE.at_ {D : Nat → Prop} {w : World} {A : Option Addr} {n c k : Nat} {es : List (Nat × Nat)} (h : SlE D w (.slice A n c) es) (hk : k < n) :
    ∃ b o e, A = some ⟨b, o, none⟩ ∧ D b ∧ es[k]? = some e ∧ w.cell? ⟨b, o + k * 2, none⟩ = some (.int .i64 (e.1 : Int)) ∧ w.cell? ⟨b, o + k * 2 + 1, none⟩ = some (.int .i64 (e.2 : Int)) := by
  obtain ⟨b, o, x, u0, u1, hA, hD, hx, hr, h0, h1⟩ := Sl.at2 h hk
  unfold RArc arcV at hr
  injection hr with e0 hr
  injection hr with e1 _
  subst e0 e1
  exact ⟨b, o, x, hA, hD, hx, h0, h1⟩
theorem arcV_len (e : Nat × Nat) : (arcV e).length = 2 := rfl
theorem SlE.of_own {w : World} {base t : Nat} {v : Value} {es : List (Nat × Nat)} (h : OwnW 2 arcV w base t v es) : SlE (Lt w.heap.size) w v es :=
  OwnW.sl h arcV_len fun _ _ _ _ => rfl

/-- The ends of the edges of each vertex, as numbers. -/
def rowN (es : List (Nat × Nat)) (v : Nat) : List Int := (nextE es v).map fun (x : Nat) => (x : Int)
def rowsN (es : List (Nat × Nat)) (N : Nat) : List (List Int) := (List.range N).map (rowN es)
theorem rowsN_len (es : List (Nat × Nat)) (N : Nat) : (rowsN es N).length = N := by unfold rowsN; simp
theorem rowsN_get {es : List (Nat × Nat)} {N v : Nat} (h : v < N) : (rowsN es N)[v]? = some (rowN es v) := by
  unfold rowsN
  rw [List.getElem?_map, List.getElem?_range h]; rfl
theorem rowsN_nil (N : Nat) : rowsN [] N = List.replicate N [] := by
  unfold rowsN rowN nextE
  refine List.ext_getElem (by simp) fun i h1 h2 => by simp
theorem next_snoc (es : List (Nat × Nat)) (e : Nat × Nat) (v : Nat) : rowN (es ++ [e]) v = if e.1 = v then rowN es v ++ [(e.2 : Int)] else rowN es v := by
  unfold rowN nextE
  rw [List.filter_append, List.map_append, List.map_append]
  by_cases h : e.1 = v
  · rw [if_pos h]; simp [h]
  · rw [if_neg h]; simp [h]
theorem rowsN_snoc {es : List (Nat × Nat)} {e : Nat × Nat} {N : Nat} (h : e.1 < N) : rowsN (es ++ [e]) N = (rowsN es N).set e.1 (rowN es e.1 ++ [(e.2 : Int)]) := by
  refine List.ext_getElem? fun i => ?_
  rw [List.getElem?_set, rowsN_len]
  by_cases hi : i < N
  · rw [rowsN_get hi, next_snoc]
    by_cases he : e.1 = i
    · subst he; simp [hi]
    · rw [if_neg he, if_neg he, rowsN_get hi]
  · have hn : ∀ es : List (Nat × Nat), (rowsN es N)[i]? = none := fun es => List.getElem?_eq_none (by rw [rowsN_len]; omega)
    rw [hn, hn, if_neg (by omega)]
theorem rowsN_take {es : List (Nat × Nat)} {k : Nat} {e : Nat × Nat} {N : Nat} (hk : es[k]? = some e) (h : e.1 < N) : rowsN (es.take (k + 1)) N = (rowsN (es.take k) N).set e.1 (rowN (es.take k) e.1 ++ [(e.2 : Int)]) := by
  rw [List.take_add_one, hk]
  exact rowsN_snoc h
theorem rowN_len (es : List (Nat × Nat)) (v : Nat) : (rowN es v).length ≤ es.length := by
  unfold rowN nextE
  rw [List.length_map, List.length_map]
  exact List.length_filter_le _ _
theorem rowN_lt {es : List (Nat × Nat)} {N v : Nat} (h : ∀ e ∈ es, e.2 < N) : ∀ z ∈ rowN es v, ∃ x : Nat, z = (x : Int) ∧ x < N := by
  intro z hz
  unfold rowN at hz
  obtain ⟨x, hx, rfl⟩ := List.mem_map.1 hz
  exact ⟨x, rfl, h _ (nextE_mem.1 hx)⟩
end Go.Proofs.YtlkkfkkhllijbaaDoor
