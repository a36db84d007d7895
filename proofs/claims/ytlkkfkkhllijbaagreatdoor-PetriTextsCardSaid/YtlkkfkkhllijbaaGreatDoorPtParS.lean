/- A net's text line by line: plain laws, and the net that is filled. -/
import Derived.Test.YtlkkfkkhllijbaaGreatDoorPtTrR
import Derived.Test.YtlkkfkkhllijbaaGreatDoorPtFirstA
import Derived.Test.YtlkkfkkhllijbaaGreatDoorOwnR
namespace Go.Proofs.YtlkkfkkhllijbaaGreatDoor
open Go.RowKit

theorem lines_cons {l m : List UInt8} {ls : List (List UInt8)} {i : Nat} {n : Net} : linesB (l :: m :: ls) i n = if i = 0 then match firstB l with
      | none => (noNet, 1, 3)
      | some n' => linesB (m :: ls) 1 n'
    else match transB l with
      | none => (noNet, i + 1, 3)
      | some t => linesB (m :: ls) (i + 1) ⟨n.places, n.trans ++ [t], n.source, n.sink⟩ := by rw [linesB]; rfl
theorem lines_first {l : List UInt8} {ls : List (List UInt8)} {n n' : Net} (hne : ls ≠ []) (h : firstB l = some n') : linesB (l :: ls) 0 n = linesB ls 1 n' := by
  cases ls with
  | nil => exact absurd rfl hne
  | cons m ls => rw [lines_cons, if_pos rfl, h]
theorem lines_nofirst {l : List UInt8} {ls : List (List UInt8)} {n : Net} (hne : ls ≠ []) (h : firstB l = none) : linesB (l :: ls) 0 n = (noNet, 1, 3) := by
  cases ls with
  | nil => exact absurd rfl hne
  | cons m ls => rw [lines_cons, if_pos rfl, h]
theorem lines_trans {l : List UInt8} {ls : List (List UInt8)} {i : Nat} {n : Net} {t : Tr} (hne : ls ≠ []) (hi : i ≠ 0) (h : transB l = some t) : linesB (l :: ls) i n = linesB ls (i + 1) ⟨n.places, n.trans ++ [t], n.source, n.sink⟩ := by
  cases ls with
  | nil => exact absurd rfl hne
  | cons m ls => rw [lines_cons, if_neg hi, h]
theorem lines_notrans {l : List UInt8} {ls : List (List UInt8)} {i : Nat} {n : Net} (hne : ls ≠ []) (hi : i ≠ 0) (h : transB l = none) : linesB (l :: ls) i n = (noNet, i + 1, 3) := by
  cases ls with
  | nil => exact absurd rfl hne
  | cons m ls => rw [lines_cons, if_neg hi, h]
theorem lines_end {l : List UInt8} {i : Nat} {n : Net} (h : l = [] ∧ 0 < i) : linesB [l] i n = if validB n = true then (n, 0, 0) else (noNet, 0, 1) := by rw [linesB, if_pos h]
theorem lines_stop {l : List UInt8} {i : Nat} {n : Net} (h : ¬ (l = [] ∧ 0 < i)) : linesB [l] i n = (noNet, i + 1, 3) := by rw [linesB, if_neg h]
theorem drop_one {α : Type} {ls : List α} {k : Nat} {l : α} (h : ls[k]? = some l) : ls.drop k = l :: ls.drop (k + 1) := by
  have hk := (List.getElem?_eq_some_iff.1 h).1
  rw [List.drop_eq_getElem_cons hk]
  rw [List.getElem?_eq_getElem hk] at h
  injection h with h
  rw [h]
theorem drop_ne {α : Type} {ls : List α} {k : Nat} (h : k < ls.length) : ls.drop k ≠ [] := fun e => by
  have := congrArg List.length e
  rw [List.length_drop] at this
  simp only [List.length_nil] at this
  omega

def RetPar (l : List UInt8) (w : World) (e : Ending) (w' : World) : Prop :=
  ∃ nv, e = .returned (.tuple #[nv, .agg #[.int .i64 ((parseB l).2.1 : Int), .int .i64 (if (parseB l).2.1 = 0 then 0 else 1)], .int .i64 (parseB l).2.2]) ∧ IsNet (Lt w'.heap.size) w' nv (parseB l).1 ∧ Below w.heap.size w w'
def RetParR (l : List UInt8) (w : World) (e : Ending) (w' : World) : Prop :=
  ∃ nv, e = .returned (.tuple #[nv, .int .i64 ((parseB l).2.1 : Int), .int .i64 (parseB l).2.2]) ∧ IsNet (Lt w'.heap.size) w' nv (parseB l).1 ∧ Below w.heap.size w w'
theorem noNet_is' {D : Nat → Prop} {w : World} : IsNet D w (.agg #[.int .i64 0, .slice none 0 0, .int .i64 0, .int .i64 0]) noNet :=
  ⟨_, rfl, by unfold Fit noNet; simp, by unfold Fit noNet; simp, by unfold Fit noNet; simp, Sl.none_⟩
theorem appTrs' : AppInfo Tryz.prog 22 52 3 := AppInfo.mk' (z := .agg #[.string ⟨#[]⟩, .slice none 0 0, .slice none 0 0]) (bytes := 64) Tryz.underlying22 (by kernel_rfl) (by omega) rfl (by omega)

/-- The net that is filled: its block, and the row of its transitions. -/
structure NtI (w : World) (base nb : Nat) (tv : Value) (n : Net) : Prop where
  bl : Blk w nb 24 #[.int .i64 n.places, tv, .int .i64 n.source, .int .i64 n.sink]
  tr : OwnR 3 RTr (Lt base) w base 52 tv n.trans
  lt : nb < base
  ft : Fit n.places ∧ Fit n.source ∧ Fit n.sink
section
variable {w w' : World} {base nb : Nat} {tv : Value} {n : Net}
theorem NtI.now (h : NtI w base nb tv n) (hb : Below w.heap.size w w') : NtI w' base nb tv n := ⟨h.bl.now hb, h.tr.now RTr.kept hb, h.lt, h.ft⟩
theorem NtI.start (h : Blk w nb 24 #[.int .i64 0, .slice none 0 0, .int .i64 0, .int .i64 0]) (hl : nb < base) : NtI w base nb (.slice none 0 0) noNet :=
  ⟨h, OwnR.nil, hl, by unfold Fit noNet; simp, by unfold Fit noNet; simp, by unfold Fit noNet; simp⟩
theorem NtI.set4 (h : NtI w base nb tv n) {p x y : Int} (hp : Fit p) (hx : Fit x) (hy : Fit y) :
    NtI ((((w.setCell ⟨nb, 0, none⟩ (.int .i64 p)).setCell ⟨nb, 1, none⟩ (.slice none 0 0)).setCell ⟨nb, 2, none⟩ (.int .i64 x)).setCell ⟨nb, 3, none⟩ (.int .i64 y)) base nb (.slice none 0 0) ⟨p, [], x, y⟩ :=
  ⟨h.bl.set4 _ _ _ _, OwnR.nil, h.lt, hp, hx, hy⟩
theorem NtI.push {tv' : Value} {t : Tr} (h : NtI w base nb tv n) (ho : OwnR 3 RTr (Lt base) w' base 52 tv' (n.trans ++ [t])) (hg : w.grownBy w' tv.ownBlock) :
    Blk w' nb 24 #[.int .i64 n.places, tv, .int .i64 n.source, .int .i64 n.sink] ∧ NtI (w'.setCell ⟨nb, 1, none⟩ tv') base nb tv' ⟨n.places, n.trans ++ [t], n.source, n.sink⟩ := by
  have hlt := h.lt
  have hB' := h.bl.grown hg (fun e => by have := (h.tr.lt nb e.symm).1; omega)
  exact ⟨hB', hB'.set_ 1 tv', ho.far RTr.kept (p := ⟨nb, 1, none⟩) hlt (fun e => by have := (ho.lt nb e).1; omega) tv', hlt, h.ft⟩
theorem NtI.is_ (h : NtI w base nb tv n) : IsNet (Lt w.heap.size) w (.agg #[.int .i64 n.places, tv, .int .i64 n.source, .int .i64 n.sink]) n :=
  ⟨tv, rfl, h.ft.1, h.ft.2.1, h.ft.2.2, h.tr.sl RTr.kept⟩
theorem NtI.far (h : NtI w base nb tv n) {p : Addr} (h1 : p.block ≠ nb) (h2 : p.block < base) (u : Value) : NtI (w.setCell p u) base nb tv n :=
  ⟨h.bl.far (fun e => h1 e.symm) u, h.tr.far RTr.kept h2 (fun e => by have := (h.tr.lt _ e).1; omega) u, h.lt, h.ft⟩
theorem NtI.far4 (h : NtI w base nb tv n) {g : Nat} (h1 : g ≠ nb) (h2 : g < base) (x y z u : Value) : NtI ((((w.setCell ⟨g, 0, none⟩ x).setCell ⟨g, 1, none⟩ y).setCell ⟨g, 2, none⟩ z).setCell ⟨g, 3, none⟩ u) base nb tv n :=
  (((h.far (p := ⟨g, 0, none⟩) h1 h2 x).far (p := ⟨g, 1, none⟩) h1 h2 y).far (p := ⟨g, 2, none⟩) h1 h2 z).far (p := ⟨g, 3, none⟩) h1 h2 u
theorem NtI.far2 (h : NtI w base nb tv n) {g : Nat} (h1 : g ≠ nb) (h2 : g < base) (x y : Value) : NtI ((w.setCell ⟨g, 0, none⟩ x).setCell ⟨g, 1, none⟩ y) base nb tv n :=
  (h.far (p := ⟨g, 0, none⟩) h1 h2 x).far (p := ⟨g, 1, none⟩) h1 h2 y
theorem NtI.elem (h : NtI w base nb tv n) {W : World} {B : Nat} {t : Tr} {iv ov : Value} (hB : base ≤ B) (hrow : ∀ g, tv.ownBlock = some g → g < B) (ht : IsTr (FrB B W) W (.agg #[.string t.label, iv, ov]) t) : RTr (Off (Lt base) W tv) W t [.string t.label, iv, ov] := by
  obtain ⟨iv', ov', he, hl, hi, ho⟩ := ht
  injection he with he
  injection he with he
  injection he with _ he
  injection he with h1 he
  injection he with h2 _
  subst h1 h2
  have hd : ∀ b, FrB B W b → Off (Lt base) W tv b := fun b hb => ⟨hb.2, fun e => by have := hrow b e; have := hb.1; omega, fun e => by have := hb.1; have e : b < base := e; omega⟩
  exact ⟨_, _, rfl, hl, Sl.keep hi RInt.kept hd (Same.refl _ _), Sl.keep ho RInt.kept hd (Same.refl _ _)⟩
end
theorem tr_form {D : Nat → Prop} {w : World} {lab : ByteArray} {iv ov : Value} {t : Tr} (h : IsTr D w (.agg #[.string lab, iv, ov]) t) : lab = t.label ∧ ∃ A c B d, iv = .slice A t.ins.length c ∧ ov = .slice B t.outs.length d := by
  obtain ⟨iv', ov', he, hl, hi, ho⟩ := h
  injection he with he
  injection he with he
  injection he with h0 he
  injection he with h1 he
  injection he with h2 _
  injection h0 with h0
  subst h0 h1 h2
  obtain ⟨A, c, e1, _⟩ := hi.open_
  obtain ⟨B, d, e2, _⟩ := ho.open_
  exact ⟨rfl, A, c, B, d, e1, e2⟩
theorem IsTr.keepF {B : Nat} {w w' : World} {v : Value} {t : Tr} (h : IsTr (FrB B w) w v t) (hb : Below w.heap.size w w') : IsTr (FrB B w') w' v t := by
  obtain ⟨iv, ov, e, hl, hi, ho⟩ := h
  have hd : ∀ b, FrB B w b → FrB B w' b := fun b h => ⟨h.1, Nat.lt_of_lt_of_le h.2 hb.size⟩
  have hs : Same (FrB B w) w w' := fun b h => hb.block b h.2
  exact ⟨iv, ov, e, hl, Sl.keep hi RInt.kept hd hs, Sl.keep ho RInt.kept hd hs⟩
theorem grown_set4 {w w1 w2 : World} {tb : Nat} (h : w.grownBy w1 (some tb)) (hb : Below w1.heap.size w1 w2) (a b c d : Value) : w.grownBy ((((w2.setCell ⟨tb, 0, none⟩ a).setCell ⟨tb, 1, none⟩ b).setCell ⟨tb, 2, none⟩ c).setCell ⟨tb, 3, none⟩ d) (some tb) := by
  have h0 := grown_then h hb
  have one : ∀ (x : World) (i : Nat) (v : Value), w.grownBy x (some tb) → w.grownBy (x.setCell ⟨tb, i, none⟩ v) (some tb) := fun x i v hx =>
    grown_step hx (grown_of_below (Below.refl _ _) none) (fun g e => by cases e) i v
  exact one _ 3 d (one _ 2 c (one _ 1 b (one _ 0 a h0)))
theorem Blk.set2 {w : World} {g : Nat} {t : TypeId} {a b : Value} (h : Blk w g t #[a, b]) (x y : Value) : Blk ((w.setCell ⟨g, 0, none⟩ x).setCell ⟨g, 1, none⟩ y) g t #[x, y] := (h.set_ 0 x).set_ 1 y
theorem Blk.far4 {w : World} {g h : Nat} {t : TypeId} {cs : Array Value} (hB : Blk w g t cs) (hne : g ≠ h) (a b c d : Value) : Blk ((((w.setCell ⟨h, 0, none⟩ a).setCell ⟨h, 1, none⟩ b).setCell ⟨h, 2, none⟩ c).setCell ⟨h, 3, none⟩ d) g t cs :=
  (((hB.far (p := ⟨h, 0, none⟩) hne a).far (p := ⟨h, 1, none⟩) hne b).far (p := ⟨h, 2, none⟩) hne c).far (p := ⟨h, 3, none⟩) hne d
theorem Blk.far2 {w : World} {g h : Nat} {t : TypeId} {cs : Array Value} (hB : Blk w g t cs) (hne : g ≠ h) (a b : Value) : Blk ((w.setCell ⟨h, 0, none⟩ a).setCell ⟨h, 1, none⟩ b) g t cs :=
  (hB.far (p := ⟨h, 0, none⟩) hne a).far (p := ⟨h, 1, none⟩) hne b
theorem Below.set2 {B : Nat} {w0 w : World} {g : Nat} (h : Below B w0 w) (hg : B ≤ g) (a b : Value) : Below B w0 ((w.setCell ⟨g, 0, none⟩ a).setCell ⟨g, 1, none⟩ b) :=
  (h.setCell (p := ⟨g, 0, none⟩) hg a).setCell (p := ⟨g, 1, none⟩) hg b
end Go.Proofs.YtlkkfkkhllijbaaGreatDoor
