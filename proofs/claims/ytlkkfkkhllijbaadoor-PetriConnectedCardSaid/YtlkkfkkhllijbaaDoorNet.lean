/- Nets as plain data, and how an api.Net reads in memory. -/
import Derived.Test.YtlkkfkkhllijbaaDoorWords
namespace Go.Proofs.YtlkkfkkhllijbaaDoor
open Go.RowKit

structure Tr where
  label : ByteArray
  ins : List Int
  outs : List Int

structure Net where
  places : Int
  trans : List Tr
  source : Int
  sink : Int

def RTr : ElemR Tr := fun D w t cs => ∃ iv ov, cs = [.string t.label, iv, ov] ∧ t.label.size ≤ maxLen ∧ SlI D w iv t.ins ∧ SlI D w ov t.outs
theorem RTr.kept : ElemR.Kept RTr := by
  rintro D D' w w' x cs hd hs ⟨iv, ov, rfl, hl, hi, ho⟩
  exact ⟨iv, ov, rfl, hl, Sl.keep hi RInt.kept hd hs, Sl.keep ho RInt.kept hd hs⟩
def SlT := Sl 3 RTr
def IsTr (D : Nat → Prop) (w : World) (v : Value) (t : Tr) : Prop := ∃ iv ov, v = .agg #[.string t.label, iv, ov] ∧ t.label.size ≤ maxLen ∧ SlI D w iv t.ins ∧ SlI D w ov t.outs
def IsNet (D : Nat → Prop) (w : World) (v : Value) (n : Net) : Prop :=
  ∃ tv, v = .agg #[.int .i64 n.places, tv, .int .i64 n.source, .int .i64 n.sink] ∧ Fit n.places ∧ Fit n.source ∧ Fit n.sink ∧ SlT D w tv n.trans

section
variable {D D' : Nat → Prop} {w w' : World} {v : Value}
theorem SlT.below {zs : List Tr} {B B' : Nat} (h : SlT (Lt B) w v zs) (hb : Below B w w') (hB : B ≤ B') : SlT (Lt B') w' v zs := Sl.below h RTr.kept hb hB
theorem SlT.open_ {zs : List Tr} (h : SlT D w v zs) : ∃ A c, v = .slice A zs.length c ∧ zs.length ≤ c ∧ c ≤ 9223372036854775807 ∧ SlT D w (.slice A zs.length c) zs := Sl.open_ h
theorem SlT.at_ {zs : List Tr} {A : Option Addr} {n c k : Nat} (h : SlT D w (.slice A n c) zs) (hk : k < n) :
    ∃ b o t iv ov, A = some ⟨b, o, none⟩ ∧ D b ∧ zs[k]? = some t ∧ t.label.size ≤ maxLen ∧ SlI D w iv t.ins ∧ SlI D w ov t.outs ∧
      w.cell? ⟨b, o + k * 3, none⟩ = some (.string t.label) ∧ w.cell? ⟨b, o + k * 3 + 1, none⟩ = some iv ∧ w.cell? ⟨b, o + k * 3 + 2, none⟩ = some ov := by
  obtain ⟨b, o, x, u0, u1, u2, hA, hD, hx, ⟨iv, ov, hu, hl, hi, ho⟩, h0, h1, h2⟩ := Sl.at3 h hk
  injection hu with e0 hu; injection hu with e1 hu; injection hu with e2 hu
  subst e0 e1 e2
  exact ⟨b, o, x, u1, u2, hA, hD, hx, hl, hi, ho, h0, h1, h2⟩
theorem IsTr.below {t : Tr} {B B' : Nat} (h : IsTr (Lt B) w v t) (hb : Below B w w') (hB : B ≤ B') : IsTr (Lt B') w' v t := by
  obtain ⟨iv, ov, e, hl, hi, ho⟩ := h
  exact ⟨iv, ov, e, hl, hi.below hb hB, ho.below hb hB⟩
theorem IsNet.below {n : Net} {B B' : Nat} (h : IsNet (Lt B) w v n) (hb : Below B w w') (hB : B ≤ B') : IsNet (Lt B') w' v n := by
  obtain ⟨tv, e, h1, h2, h3, ht⟩ := h
  exact ⟨tv, e, h1, h2, h3, ht.below hb hB⟩
theorem SlT.now {zs : List Tr} (h : SlT (Lt w.heap.size) w v zs) (hb : Below w.heap.size w w') : SlT (Lt w'.heap.size) w' v zs := h.below hb hb.size
theorem IsTr.now {t : Tr} (h : IsTr (Lt w.heap.size) w v t) (hb : Below w.heap.size w w') : IsTr (Lt w'.heap.size) w' v t := h.below hb hb.size
theorem IsNet.now {n : Net} (h : IsNet (Lt w.heap.size) w v n) (hb : Below w.heap.size w w') : IsNet (Lt w'.heap.size) w' v n := h.below hb hb.size
end
end Go.Proofs.YtlkkfkkhllijbaaDoor
