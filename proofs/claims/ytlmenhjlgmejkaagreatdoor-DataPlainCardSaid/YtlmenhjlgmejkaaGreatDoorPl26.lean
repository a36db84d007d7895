/- Merged texts. -/
import Derived.Test.YtlmenhjlgmejkaaGreatDoorPl25
set_option linter.all false
namespace Go.Proofs.YtlmenhjlgmejkaaGreatDoor
open Go.RowKit
def plainD (n : Net) : DNet := ⟨n, [], [], List.replicate n.trans.length trueX, List.replicate n.trans.length []⟩
def trueC : List Value := [.int .i64 1, .int .i64 1, .int .i64 1, .string ⟨#[]⟩, .string ⟨#[]⟩, .slice none 0 0]
def nilC : List Value := [.slice none 0 0]
def fcT (_ : Unit) : List Value := trueC
def fcN (_ : Unit) : List Value := nilC
theorem trueC_one : ∀ u ∈ fcT (), u.oneCell' = true := by intro u hu; simp [fcT, trueC] at hu; rcases hu with rfl | rfl | rfl | rfl <;> rfl
theorem nilC_one : ∀ u ∈ fcN (), u.oneCell' = true := by intro u hu; simp [fcN, nilC] at hu; subst hu; rfl
def OwnG (w : World) (base : Nat) (v : Value) (k : Nat) : Prop := OwnW 6 fcT w base 65 v (List.replicate k ())
def OwnN (w : World) (base : Nat) (v : Value) (k : Nat) : Prop := OwnW 1 fcN w base 122 v (List.replicate k ())
theorem appWWs : AppInfo Tryz.prog 28 122 1 := AppInfo.mk' (z := .slice none 0 0) (bytes := 24) Tryz.underlying28 (by kernel_rfl) (by decide) rfl (by decide)
theorem OwnW.formX {α : Type} {size : Nat} {fc : α → List Value} {w : World} {base t : Nat} {v : Value} {xs : List α} (h : OwnW size fc w base t v xs) : ∃ A c, v = .slice A xs.length c := by
  rcases h.2 with ⟨rfl, h0⟩ | ⟨g, cap, cur, rfl, _⟩
  · exact ⟨none, 0, by rw [h0]⟩
  · exact ⟨_, _, rfl⟩
theorem OwnW.grown {α : Type} {size : Nat} {fc : α → List Value} {w w' : World} {base t : Nat} {v : Value} {xs : List α} {row : Option Nat} (h : OwnW size fc w base t v xs) (hg : w.grownBy w' row) (hne : ∀ g, row = some g → v.ownBlock ≠ some g) : OwnW size fc w' base t v xs := by
  refine World.ownsRow.kept h hg ?_
  cases e : v.ownBlock with
  | none => exact .inl rfl
  | some g => exact .inr (fun h' => hne g h'.symm e)
theorem OwnW.far {α : Type} {size : Nat} {fc : α → List Value} {w : World} {base t : Nat} {v : Value} {xs : List α} (h : OwnW size fc w base t v xs) {p : Addr} (hp : p.block < base) (u : Value) : OwnW size fc (w.setCell p u) base t v xs :=
  ownsRow_setCell_other h (fun e => by have := (World.ownsRow.lt h p.block e).1; omega) u
theorem OwnG.form {w : World} {base k : Nat} {v : Value} (h : OwnG w base v k) : ∃ A c, v = .slice A k c := by
  obtain ⟨A, c, e⟩ := OwnW.formX h
  exact ⟨A, c, by rw [e, List.length_replicate]⟩
theorem OwnN.form {w : World} {base k : Nat} {v : Value} (h : OwnN w base v k) : ∃ A c, v = .slice A k c := by
  obtain ⟨A, c, e⟩ := OwnW.formX h
  exact ⟨A, c, by rw [e, List.length_replicate]⟩
theorem rep_snoc (k : Nat) : List.replicate (k + 1) () = List.replicate k () ++ [()] := List.replicate_succ'
theorem OwnG.push {w : World} {base k : Nat} {v : Value} (h : OwnW 6 fcT w base 65 v (List.replicate k () ++ [()])) : OwnG w base v (k + 1) := by
  unfold OwnG; rw [rep_snoc]; exact h
theorem OwnN.push {w : World} {base k : Nat} {v : Value} (h : OwnW 1 fcN w base 122 v (List.replicate k () ++ [()])) : OwnN w base v (k + 1) := by
  unfold OwnN; rw [rep_snoc]; exact h
theorem rep_sl {α : Type} {size : Nat} {R : ElemR α} {x : α} {fc : Unit → List Value} {w : World} {base t k : Nat} {v : Value} (h : OwnW size fc w base t v (List.replicate k ())) (hl : ∀ y, (fc y).length = size) (hR : R (Lt w.heap.size) w x (fc ())) : Sl size R (Lt w.heap.size) w v (List.replicate k x) := by
  have h' : w.ownsRow base t size v (List.replicate k ()).length (flat fc (List.replicate k ())) := h
  refine Sl.of_own h' (by simp) (own_lt h') fun i y hy => ?_
  have hi : i < k := by have := lt_of_get hy; simpa using this
  obtain rfl : y = x := by
    rw [List.getElem?_replicate, if_pos hi] at hy
    injection hy with hy
    exact hy.symm
  refine ⟨fc (), hl (), fun j u hu => ?_, hR⟩
  have hj : j < size := by rw [← hl ()]; exact lt_of_get hu
  rw [flat_get hl _ i j () (by simp [hi]) hj]
  exact hu
theorem OwnW.far8 {α : Type} {size : Nat} {fc : α → List Value} {w : World} {base t g : Nat} {v : Value} {xs : List α} (h : OwnW size fc w base t v xs) (hg : g < base) (u0 u1 u2 u3 u4 u5 u6 u7 : Value) : OwnW size fc ((((((((w.setCell ⟨g, 0, none⟩ u0).setCell ⟨g, 1, none⟩ u1).setCell ⟨g, 2, none⟩ u2).setCell ⟨g, 3, none⟩ u3).setCell ⟨g, 4, none⟩ u4).setCell ⟨g, 5, none⟩ u5).setCell ⟨g, 6, none⟩ u6).setCell ⟨g, 7, none⟩ u7) base t v xs :=
  (OwnW.far (OwnW.far (OwnW.far (OwnW.far (OwnW.far (OwnW.far (OwnW.far (OwnW.far h (p := ⟨g, 0, none⟩) hg u0) (p := ⟨g, 1, none⟩) hg u1) (p := ⟨g, 2, none⟩) hg u2) (p := ⟨g, 3, none⟩) hg u3) (p := ⟨g, 4, none⟩) hg u4) (p := ⟨g, 5, none⟩) hg u5) (p := ⟨g, 6, none⟩) hg u6) (p := ⟨g, 7, none⟩) hg u7)
theorem Below.set8 {B : Nat} {w0 w : World} {g : Nat} (h : Below B w0 w) (hg : B ≤ g) (u0 u1 u2 u3 u4 u5 u6 u7 : Value) : Below B w0 ((((((((w.setCell ⟨g, 0, none⟩ u0).setCell ⟨g, 1, none⟩ u1).setCell ⟨g, 2, none⟩ u2).setCell ⟨g, 3, none⟩ u3).setCell ⟨g, 4, none⟩ u4).setCell ⟨g, 5, none⟩ u5).setCell ⟨g, 6, none⟩ u6).setCell ⟨g, 7, none⟩ u7) :=
  (Below.setCell (Below.setCell (Below.setCell (Below.setCell (Below.setCell (Below.setCell (Below.setCell (Below.setCell h (p := ⟨g, 0, none⟩) hg u0) (p := ⟨g, 1, none⟩) hg u1) (p := ⟨g, 2, none⟩) hg u2) (p := ⟨g, 3, none⟩) hg u3) (p := ⟨g, 4, none⟩) hg u4) (p := ⟨g, 5, none⟩) hg u5) (p := ⟨g, 6, none⟩) hg u6) (p := ⟨g, 7, none⟩) hg u7)
theorem plain_is {n : Net} {D : Nat → Prop} {w : World} {base : Nat} {tv gv wv : Value} (hD : D = Lt w.heap.size) (hn : IsNet D w (.agg #[.int .i64 n.places, tv, .int .i64 n.source, .int .i64 n.sink]) n) (hg : OwnG w base gv n.trans.length) (hw : OwnN w base wv n.trans.length) :
    IsDn 1 D w (.agg #[.int .i64 n.places, tv, .int .i64 n.source, .int .i64 n.sink, .slice none 0 0, .slice none 0 0, gv, wv]) (plainD n) := by
  subst hD
  exact ⟨_, _, _, _, _, rfl, hn, Sl.none_, Sl.none_, rep_sl hg (fun _ => rfl) (trueX_row 0 _ _), rep_sl hw (fun _ => rfl) ⟨_, rfl, Sl.none_⟩⟩
set_option maxHeartbeats 8000000 in
set_option maxRecDepth 100000 in
theorem plain30_ref (n : Net) (u : Value) (w : World) (h : IsNet (Lt w.heap.size) w u n) (hl : n.trans.length ≤ 1000000) :
    Calls Tryz.prog 53 #[u] w fun e w' => ∃ v, e = .returned v ∧ IsDn 1 (Lt w'.heap.size) w' v (plainD n) ∧ Below w.heap.size w w' := by
  have h0 := h
  obtain ⟨tv, rfl, _, _, _, ht⟩ := h
  obtain ⟨Ta, ca, rfl, _, _, _⟩ := ht.open_
  have hb0 := bone w (.cells #[.int .i64 n.places, .slice Ta n.trans.length ca, .int .i64 n.source, .int .i64 n.sink] 24)
  have hb1 := bbox hb0 (.cells #[.int .i64 0, .slice none 0 0, .int .i64 0, .int .i64 0, .slice none 0 0, .slice none 0 0, .slice none 0 0, .slice none 0 0] 30)
  have hb2 := bbox hb1 (.cells #[.int .i64 n.places, .slice Ta n.trans.length ca, .int .i64 n.source, .int .i64 n.sink, .slice none 0 0, .slice none 0 0, .slice none 0 0, .slice none 0 0] 30)
  have hB := ((Blk.new w 24 #[.int .i64 n.places, .slice Ta n.trans.length ca, .int .i64 n.source, .int .i64 n.sink]).alloc (.cells #[.int .i64 0, .slice none 0 0, .int .i64 0, .int .i64 0, .slice none 0 0, .slice none 0 0, .slice none 0 0, .slice none 0 0] 30)).alloc (.cells #[.int .i64 n.places, .slice Ta n.trans.length ca, .int .i64 n.source, .int .i64 n.sink, .slice none 0 0, .slice none 0 0, .slice none 0 0, .slice none 0 0] 30)
  have hZ := (Blk.new_at (t := 30) (cs := #[.int .i64 0, .slice none 0 0, .int .i64 0, .int .i64 0, .slice none 0 0, .slice none 0 0, .slice none 0 0, .slice none 0 0]) (w := w.alloc (.cells #[.int .i64 n.places, .slice Ta n.trans.length ca, .int .i64 n.source, .int .i64 n.sink] 24)) (s := w.heap.size + 1) (by simp)).alloc (.cells #[.int .i64 n.places, .slice Ta n.trans.length ca, .int .i64 n.source, .int .i64 n.sink, .slice none 0 0, .slice none 0 0, .slice none 0 0, .slice none 0 0] 30)
  have hG := Blk.new_at (t := 30) (cs := #[.int .i64 n.places, .slice Ta n.trans.length ca, .int .i64 n.source, .int .i64 n.sink, .slice none 0 0, .slice none 0 0, .slice none 0 0, .slice none 0 0]) (w := (w.alloc (.cells #[.int .i64 n.places, .slice Ta n.trans.length ca, .int .i64 n.source, .int .i64 n.sink] 24)).alloc (.cells #[.int .i64 0, .slice none 0 0, .int .i64 0, .int .i64 0, .slice none 0 0, .slice none 0 0, .slice none 0 0, .slice none 0 0] 30)) (s := w.heap.size + 1 + 1) (by simp)
  clear ht
  go_enter Tryz.func53, Tryz.ntmps53
  go_upto_region 2 with fail
  generalize hw1 : ((w.alloc (.cells #[.int .i64 n.places, .slice Ta n.trans.length ca, .int .i64 n.source, .int .i64 n.sink] 24)).alloc (.cells #[.int .i64 0, .slice none 0 0, .int .i64 0, .int .i64 0, .slice none 0 0, .slice none 0 0, .slice none 0 0, .slice none 0 0] 30)).alloc (.cells #[.int .i64 n.places, .slice Ta n.trans.length ca, .int .i64 n.source, .int .i64 n.sink, .slice none 0 0, .slice none 0 0, .slice none 0 0, .slice none 0 0] 30) = w1 at *
  clear hw1 hb0 hb1
  have hszG := hG.lt
  go_wp2_with fail
  go_loopw [4] (fun iv wr => ∃ (k : Nat) (A A' : Option Addr) (c c' : Nat), iv = .int .i64 k ∧ k ≤ n.trans.length ∧ OwnG wr w1.heap.size (.slice A k c) k ∧ OwnN wr w1.heap.size (.slice A' k c') k ∧ Blk wr (w.heap.size + 1 + 1) 30 #[.int .i64 n.places, .slice Ta n.trans.length ca, .int .i64 n.source, .int .i64 n.sink, .slice none 0 0, .slice none 0 0, .slice A k c, .slice A' k c'] ∧ Blk wr w.heap.size 24 #[.int .i64 n.places, .slice Ta n.trans.length ca, .int .i64 n.source, .int .i64 n.sink] ∧ Blk wr (w.heap.size + 1) 30 #[.int .i64 0, .slice none 0 0, .int .i64 0, .int .i64 0, .slice none 0 0, .slice none 0 0, .slice none 0 0, .slice none 0 0] ∧ Below w.heap.size w wr ∧ w1.heap.size ≤ wr.heap.size) (fun iv _ => n.trans.length - (intOf iv).toNat)
  case atStart => exact ⟨0, none, none, 0, 0, rfl, Nat.zero_le _, OwnW.nil, OwnW.nil, hG, hB, hZ, hb2, Nat.le_refl _⟩
  case round =>
    obtain ⟨k, A, A', c, c', rfl, hk, hog, hon, hG, hB, hZ, hbr, hszr⟩ := hrel
    clear hb2
    obtain ⟨q0, q1, q2, q3, q4, q5, q6, q7⟩ := hG.c8
    obtain ⟨y0, y1, y2, y3⟩ := hB.c4
    by_cases hlt : k < n.trans.length
    · have hkm : k < 10000000 := by omega
      have q6f := hG.frozen 6
      go_upto_region 5 with fail
      go_upto_region 6 with (at_builtin; refine wpList_pushW (fc := fcT) appExs rfl (.tmp 15) (.tmp 18) rfl wr () (List.replicate k ()) rfl trueC_one _ rfl hog rfl (by simp; omega) hszr ?_; intro v' w' hog' hgr hat; have hog2 : OwnG w' w1.heap.size v' (k + 1) := OwnG.push hog'; obtain ⟨A9, c9, rfl⟩ := OwnG.form hog2; have hG' := hG.grown hgr (fun e => by have := (World.ownsRow.lt hog _ e.symm).1; omega); obtain ⟨p0, p1, p2, p3, p4, p5, p6, p7⟩ := hG'.c8; have p6f := hG'.frozen 6)
      have hap := fun g hg => own_apart hog hon (by decide) (g := g) hg
      have hog5 : OwnG (w'.setCell ⟨w.heap.size + 1 + 1, 6, none⟩ (.slice A9 (k + 1) c9)) w1.heap.size (.slice A9 (k + 1) c9) (k + 1) := OwnW.far hog2 hszG _
      have hon5 : OwnN (w'.setCell ⟨w.heap.size + 1 + 1, 6, none⟩ (.slice A9 (k + 1) c9)) w1.heap.size (.slice A' k c') k := OwnW.far (OwnW.grown hon hgr hap) hszG _
      have hG5 : Blk (w'.setCell ⟨w.heap.size + 1 + 1, 6, none⟩ (.slice A9 (k + 1) c9)) (w.heap.size + 1 + 1) 30 #[.int .i64 n.places, .slice Ta n.trans.length ca, .int .i64 n.source, .int .i64 n.sink, .slice none 0 0, .slice none 0 0, .slice A9 (k + 1) c9, .slice A' k c'] := hG'.set_ 6 (.slice A9 (k + 1) c9)
      have hB5 : Blk (w'.setCell ⟨w.heap.size + 1 + 1, 6, none⟩ (.slice A9 (k + 1) c9)) w.heap.size 24 #[.int .i64 n.places, .slice Ta n.trans.length ca, .int .i64 n.source, .int .i64 n.sink] := (hB.grown hgr (fun e => by have := (World.ownsRow.lt hog _ e.symm).1; omega)).far (p := ⟨w.heap.size + 1 + 1, 6, none⟩) (by show w.heap.size ≠ w.heap.size + 1 + 1; omega) _
      have hZ5 : Blk (w'.setCell ⟨w.heap.size + 1 + 1, 6, none⟩ (.slice A9 (k + 1) c9)) (w.heap.size + 1) 30 #[.int .i64 0, .slice none 0 0, .int .i64 0, .int .i64 0, .slice none 0 0, .slice none 0 0, .slice none 0 0, .slice none 0 0] := (hZ.grown hgr (fun e => by have := (World.ownsRow.lt hog _ e.symm).1; omega)).far (p := ⟨w.heap.size + 1 + 1, 6, none⟩) (by show w.heap.size + 1 ≠ w.heap.size + 1 + 1; omega) _
      have hbg : Below w1.heap.size wr w' := below_of_grown hgr hszr (fun g hg => (World.ownsRow.lt hog g hg).1)
      have hbr5 : Below w.heap.size w (w'.setCell ⟨w.heap.size + 1 + 1, 6, none⟩ (.slice A9 (k + 1) c9)) := (hbr.trans (hbg.mono (by omega))).setCell (p := ⟨w.heap.size + 1 + 1, 6, none⟩) (by show w.heap.size ≤ w.heap.size + 1 + 1; omega) _
      have hszr5 : w1.heap.size ≤ (w'.setCell ⟨w.heap.size + 1 + 1, 6, none⟩ (.slice A9 (k + 1) c9)).heap.size := by have := hgr.size; simp; omega
      generalize hw5 : w'.setCell ⟨w.heap.size + 1 + 1, 6, none⟩ (.slice A9 (k + 1) c9) = w5 at *
      clear hw5 p0 p1 p2 p3 p4 p5 p6 p7 p6f q0 q1 q2 q3 q4 q5 q6 q7 q6f y0 y1 y2 y3 hG' hG hB hZ hog hon hog2 hog' hbr hbg hap
      obtain ⟨q0, q1, q2, q3, q4, q5, q6, q7⟩ := hG5.c8
      go_wp2_with (at_builtin; refine wpList_pushW (fc := fcN) appWWs rfl (.tmp 22) (.tmp 23) rfl w5 () (List.replicate k ()) rfl nilC_one _ rfl hon5 rfl (by simp; omega) hszr5 ?_; intro v' w' hon' hgr hat; have hon2 : OwnN w' w1.heap.size v' (k + 1) := OwnN.push hon'; obtain ⟨A8, c8, rfl⟩ := OwnN.form hon2; have hG' := hG5.grown hgr (fun e => by have := (World.ownsRow.lt hon5 _ e.symm).1; omega); obtain ⟨p0, p1, p2, p3, p4, p5, p6, p7⟩ := hG'.c8; have p7f := hG'.frozen 7)
      have hap := fun g hg => own_apart hon5 hog5 (by decide) (g := g) hg
      have hon6 : OwnN (w'.setCell ⟨w.heap.size + 1 + 1, 7, none⟩ (.slice A8 (k + 1) c8)) w1.heap.size (.slice A8 (k + 1) c8) (k + 1) := OwnW.far hon2 hszG _
      have hog6 : OwnG (w'.setCell ⟨w.heap.size + 1 + 1, 7, none⟩ (.slice A8 (k + 1) c8)) w1.heap.size (.slice A9 (k + 1) c9) (k + 1) := OwnW.far (OwnW.grown hog5 hgr hap) hszG _
      have hG6 : Blk (w'.setCell ⟨w.heap.size + 1 + 1, 7, none⟩ (.slice A8 (k + 1) c8)) (w.heap.size + 1 + 1) 30 #[.int .i64 n.places, .slice Ta n.trans.length ca, .int .i64 n.source, .int .i64 n.sink, .slice none 0 0, .slice none 0 0, .slice A9 (k + 1) c9, .slice A8 (k + 1) c8] := hG'.set_ 7 (.slice A8 (k + 1) c8)
      have hB6 : Blk (w'.setCell ⟨w.heap.size + 1 + 1, 7, none⟩ (.slice A8 (k + 1) c8)) w.heap.size 24 #[.int .i64 n.places, .slice Ta n.trans.length ca, .int .i64 n.source, .int .i64 n.sink] := (hB5.grown hgr (fun e => by have := (World.ownsRow.lt hon5 _ e.symm).1; omega)).far (p := ⟨w.heap.size + 1 + 1, 7, none⟩) (by show w.heap.size ≠ w.heap.size + 1 + 1; omega) _
      have hZ6 : Blk (w'.setCell ⟨w.heap.size + 1 + 1, 7, none⟩ (.slice A8 (k + 1) c8)) (w.heap.size + 1) 30 #[.int .i64 0, .slice none 0 0, .int .i64 0, .int .i64 0, .slice none 0 0, .slice none 0 0, .slice none 0 0, .slice none 0 0] := (hZ5.grown hgr (fun e => by have := (World.ownsRow.lt hon5 _ e.symm).1; omega)).far (p := ⟨w.heap.size + 1 + 1, 7, none⟩) (by show w.heap.size + 1 ≠ w.heap.size + 1 + 1; omega) _
      have hbg : Below w1.heap.size w5 w' := below_of_grown hgr hszr5 (fun g hg => (World.ownsRow.lt hon5 g hg).1)
      have hbr6 : Below w.heap.size w (w'.setCell ⟨w.heap.size + 1 + 1, 7, none⟩ (.slice A8 (k + 1) c8)) := (hbr5.trans (hbg.mono (by omega))).setCell (p := ⟨w.heap.size + 1 + 1, 7, none⟩) (by show w.heap.size ≤ w.heap.size + 1 + 1; omega) _
      have hszr6 : w1.heap.size ≤ (w'.setCell ⟨w.heap.size + 1 + 1, 7, none⟩ (.slice A8 (k + 1) c8)).heap.size := by have := hgr.size; simp; omega
      clear p0 p1 p2 p3 p4 p5 p6 p7 p7f
      go_roundw
      case rel => exact ⟨k + 1, A9, A8, c9, c8, by go_num, by omega, hog6, hon6, hG6, hB6, hZ6, hbr6, hszr6⟩
      case measure => simp [intOf]; omega
    · obtain rfl : k = n.trans.length := by omega
      obtain ⟨z0, z1, z2, z3, z4, z5, z6, z7⟩ := hZ.c8
      have zf := hZ.frozen
      have f0 := zf 0
      have f1 := zf 1
      have f2 := zf 2
      have f3 := zf 3
      have f4 := zf 4
      have f5 := zf 5
      have f6 := zf 6
      have f7 := zf 7
      clear zf
      go_wp2_with fail
      have hZ9 := hZ.set8 (.int .i64 n.places) (.slice Ta n.trans.length ca) (.int .i64 n.source) (.int .i64 n.sink) (.slice none 0 0) (.slice none 0 0) (.slice A n.trans.length c) (.slice A' n.trans.length c')
      obtain ⟨r0, r1, r2, r3, r4, r5, r6, r7⟩ := hZ9.c8
      refine bodyPost_ret (v := .agg #[.int .i64 n.places, .slice Ta n.trans.length ca, .int .i64 n.source, .int .i64 n.sink, .slice none 0 0, .slice none 0 0, .slice A n.trans.length c, .slice A' n.trans.length c']) (by simp [results, Tryz.results53, go_sem, r0, r1, r2, r3, r4, r5, r6, r7]) rfl ?_
      have hbF := Below.set8 hbr (g := w.heap.size + 1) (by omega) (.int .i64 n.places) (.slice Ta n.trans.length ca) (.int .i64 n.source) (.int .i64 n.sink) (.slice none 0 0) (.slice none 0 0) (.slice A n.trans.length c) (.slice A' n.trans.length c')
      refine ⟨_, rfl, ?_, hbF⟩
      exact plain_is rfl (h0.now hbF) (OwnW.far8 hog (by omega) _ _ _ _ _ _ _ _) (OwnW.far8 hon (by omega) _ _ _ _ _ _ _ _)
theorem appTrs : AppInfo Tryz.prog 22 112 3 := AppInfo.mk' (z := .agg #[.string ⟨#[]⟩, .slice none 0 0, .slice none 0 0]) (bytes := 64) Tryz.underlying22 (by kernel_rfl) (by omega) rfl (by omega)
def emptyN : Net := ⟨0, [], 0, 0⟩
def RetPl (n : Net) (w : World) (e : Ending) (w' : World) : Prop := ∃ v, e = .returned (.tuple #[v, .int .i64 (if validB n then 0 else 1)]) ∧ IsDn 1 (Lt w'.heap.size) w' v (plainD (if validB n then n else emptyN)) ∧ Below w.heap.size w w'
def PlX (base : Nat) (gv wv : Value) (b : Nat) : Prop := b < base ∨ gv.ownBlock = some b ∨ wv.ownBlock = some b
structure PlI (w : World) (base G : Nat) (n : Net) (tv gv wv : Value) (k j i : Nat) : Prop where
  tr : OwnR 3 RTr (PlX base gv wv) w base 112 tv (n.trans.take k)
  og : OwnG w base gv j
  on : OwnN w base wv i
  bl : Blk w G 30 #[.int .i64 n.places, tv, .int .i64 n.source, .int .i64 n.sink, .slice none 0 0, .slice none 0 0, gv, wv]
  lo : G < base
section
variable {w w' : World} {base G : Nat} {n : Net} {tv gv wv : Value} {k j i : Nat}
theorem grown_set8 (w : World) (p : Addr) (u : Value) : w.grownBy (w.setCell p u) (some p.block) := ⟨rfl, rfl, rfl, by simp, fun i _ hne => Below.heap_setCell w p u i (fun e => hne (by rw [e]))⟩
theorem PlI.now (h : PlI w base G n tv gv wv k j i) (hb : Below w.heap.size w w') : PlI w' base G n tv gv wv k j i := ⟨h.tr.now RTr.kept hb, OwnW.now h.og hb, OwnW.now h.on hb, h.bl.now hb, h.lo⟩
theorem PlI.tg (h : PlI w base G n tv gv wv k j i) {g : Nat} (hg : tv.ownBlock = some g) : gv.ownBlock ≠ some g := by
  obtain ⟨cs, h1, _⟩ := h.tr
  exact own_apart h1 h.og (by decide) hg
theorem PlI.tn (h : PlI w base G n tv gv wv k j i) {g : Nat} (hg : tv.ownBlock = some g) : wv.ownBlock ≠ some g := by
  obtain ⟨cs, h1, _⟩ := h.tr
  exact own_apart h1 h.on (by decide) hg
theorem PlI.gn (h : PlI w base G n tv gv wv k j i) {g : Nat} (hg : gv.ownBlock = some g) : wv.ownBlock ≠ some g := own_apart h.og h.on (by decide) hg
theorem own_low {base : Nat} {v : Value} {G : Nat} (hl : ∀ g, v.ownBlock = some g → base ≤ g ∧ g < w.heap.size) (hG : G < base) : v.ownBlock ≠ some G := fun e => by have := (hl G e).1; omega
theorem PlI.pushT {tv' : Value} {t : Tr} (h : PlI w base G n tv gv wv k j i) (ht : n.trans[k]? = some t) (ho : OwnR 3 RTr (PlX base gv wv) w' base 112 tv' (n.trans.take k ++ [t])) (hg : w.grownBy w' tv.ownBlock) (hbase : base ≤ w.heap.size) :
    Blk w' G 30 #[.int .i64 n.places, tv, .int .i64 n.source, .int .i64 n.sink, .slice none 0 0, .slice none 0 0, gv, wv] ∧ PlI (w'.setCell ⟨G, 1, none⟩ tv') base G n tv' gv wv (k + 1) j i ∧ Below base w w' := by
  have e : n.trans.take (k + 1) = n.trans.take k ++ [t] := by
    have hk := lt_of_get ht
    rw [List.getElem?_eq_getElem hk] at ht
    injection ht with ht
    rw [List.take_succ_eq_append_getElem hk, ht]
  have hB' := h.bl.grown hg (fun e => own_low h.tr.lt h.lo e.symm)
  have hg2 := grown_set8 w' ⟨G, 1, none⟩ tv'
  refine ⟨hB', ⟨?_, OwnW.far (OwnW.grown h.og hg (fun g hg => h.tg hg)) h.lo _, OwnW.far (OwnW.grown h.on hg (fun g hg => h.tn hg)) h.lo _, hB'.set_ 1 tv', h.lo⟩, below_of_grown hg hbase (fun g hg => (h.tr.lt g hg).1)⟩
  rw [e]
  exact ho.far RTr.kept (p := ⟨G, 1, none⟩) (.inl h.lo) (own_low ho.lt h.lo) tv'
theorem PlI.pushG {gv' : Value} (h : PlI w base G n tv gv wv k j i) (ho : OwnG w' base gv' (j + 1)) (hg : w.grownBy w' gv.ownBlock) (hat : gv'.ownBlock = gv.ownBlock ∨ gv'.ownBlock = some (w.heap.size + 1)) (hbase : base ≤ w.heap.size) :
    Blk w' G 30 #[.int .i64 n.places, tv, .int .i64 n.source, .int .i64 n.sink, .slice none 0 0, .slice none 0 0, gv, wv] ∧ PlI (w'.setCell ⟨G, 6, none⟩ gv') base G n tv gv' wv k (j + 1) i ∧ Below base w w' := by
  have hB' := h.bl.grown hg (fun e => own_low (World.ownsRow.lt h.og) h.lo e.symm)
  have hg2 := grown_set8 w' ⟨G, 6, none⟩ gv'
  refine ⟨hB', ⟨?_, OwnW.far ho h.lo _, OwnW.far (OwnW.grown h.on hg (fun g hg => h.gn hg)) h.lo _, hB'.set_ 6 gv', h.lo⟩, below_of_grown hg hbase (fun g hg => (World.ownsRow.lt h.og g hg).1)⟩
  have h1 : OwnR 3 RTr (PlX base gv' wv) w' base 112 tv (n.trans.take k) := h.tr.regrown RTr.kept hg (fun g hg => ⟨.inr (.inl hg), fun e => h.tg e hg⟩) (fun b hb => by
    rcases hb with hb | hb | hb
    · exact .inl (.inl hb)
    · rcases hat with e | e
      · exact .inl (.inr (.inl (by rw [← e]; exact hb)))
      · rw [e] at hb
        injection hb with hb
        exact .inr (by omega)
    · exact .inl (.inr (.inr hb)))
  exact h1.far RTr.kept (p := ⟨G, 6, none⟩) (.inl h.lo) (own_low h1.lt h.lo) gv'
theorem PlI.pushN {wv' : Value} (h : PlI w base G n tv gv wv k j i) (ho : OwnN w' base wv' (i + 1)) (hg : w.grownBy w' wv.ownBlock) (hat : wv'.ownBlock = wv.ownBlock ∨ wv'.ownBlock = some (w.heap.size + 1)) (hbase : base ≤ w.heap.size) :
    Blk w' G 30 #[.int .i64 n.places, tv, .int .i64 n.source, .int .i64 n.sink, .slice none 0 0, .slice none 0 0, gv, wv] ∧ PlI (w'.setCell ⟨G, 7, none⟩ wv') base G n tv gv wv' k j (i + 1) ∧ Below base w w' := by
  have hB' := h.bl.grown hg (fun e => own_low (World.ownsRow.lt h.on) h.lo e.symm)
  have hg2 := grown_set8 w' ⟨G, 7, none⟩ wv'
  refine ⟨hB', ⟨?_, OwnW.far (OwnW.grown h.og hg (fun g hg e => h.gn e hg)) h.lo _, OwnW.far ho h.lo _, hB'.set_ 7 wv', h.lo⟩, below_of_grown hg hbase (fun g hg => (World.ownsRow.lt h.on g hg).1)⟩
  have h1 : OwnR 3 RTr (PlX base gv wv') w' base 112 tv (n.trans.take k) := h.tr.regrown RTr.kept hg (fun g hg => ⟨.inr (.inr hg), fun e => h.tn e hg⟩) (fun b hb => by
    rcases hb with hb | hb | hb
    · exact .inl (.inl hb)
    · exact .inl (.inr (.inl hb))
    · rcases hat with e | e
      · exact .inl (.inr (.inr (by rw [← e]; exact hb)))
      · rw [e] at hb
        injection hb with hb
        exact .inr (by omega))
  exact h1.far RTr.kept (p := ⟨G, 7, none⟩) (.inl h.lo) (own_low h1.lt h.lo) wv'
theorem OwnR.far8 {α : Type} {size : Nat} {R : ElemR α} {X : Nat → Prop} {w : World} {base t g : Nat} {v : Value} {xs : List α} (h : OwnR size R X w base t v xs) (hR : ElemR.Kept R) (hX : X g) (hv : v.ownBlock ≠ some g) (u0 u1 u2 u3 u4 u5 u6 u7 : Value) : OwnR size R X ((((((((w.setCell ⟨g, 0, none⟩ u0).setCell ⟨g, 1, none⟩ u1).setCell ⟨g, 2, none⟩ u2).setCell ⟨g, 3, none⟩ u3).setCell ⟨g, 4, none⟩ u4).setCell ⟨g, 5, none⟩ u5).setCell ⟨g, 6, none⟩ u6).setCell ⟨g, 7, none⟩ u7) base t v xs :=
  (((((((h.far hR (p := ⟨g, 0, none⟩) hX hv u0).far hR (p := ⟨g, 1, none⟩) hX hv u1).far hR (p := ⟨g, 2, none⟩) hX hv u2).far hR (p := ⟨g, 3, none⟩) hX hv u3).far hR (p := ⟨g, 4, none⟩) hX hv u4).far hR (p := ⟨g, 5, none⟩) hX hv u5).far hR (p := ⟨g, 6, none⟩) hX hv u6).far hR (p := ⟨g, 7, none⟩) hX hv u7
end
set_option maxHeartbeats 16000000 in
set_option maxRecDepth 100000 in
theorem plain_any (n : Net) (u : Value) (w : World) (h : IsNet (Lt w.heap.size) w u n) :
    Calls Tryz.prog 50 #[u] w (RetPl n w) := by
  have h0 := h
  obtain ⟨tv, rfl, hp, hs, hkk, ht⟩ := h
  obtain ⟨At, ct, rfl, t1, t2, ht⟩ := ht.open_
  have hb0 := bone w (.cells #[.int .i64 n.places, .slice At n.trans.length ct, .int .i64 n.source, .int .i64 n.sink] 24)
  have hb := bbox hb0 (.cells #[.int .i64 0, .slice none 0 0, .int .i64 0, .int .i64 0, .slice none 0 0, .slice none 0 0, .slice none 0 0, .slice none 0 0] 30)
  have hB := (Blk.new w 24 #[.int .i64 n.places, .slice At n.trans.length ct, .int .i64 n.source, .int .i64 n.sink]).alloc (.cells #[.int .i64 0, .slice none 0 0, .int .i64 0, .int .i64 0, .slice none 0 0, .slice none 0 0, .slice none 0 0, .slice none 0 0] 30)
  have hZ := Blk.new_at (t := 30) (cs := #[.int .i64 0, .slice none 0 0, .int .i64 0, .int .i64 0, .slice none 0 0, .slice none 0 0, .slice none 0 0, .slice none 0 0]) (w := w.alloc (.cells #[.int .i64 n.places, .slice At n.trans.length ct, .int .i64 n.source, .int .i64 n.sink] 24)) (s := w.heap.size + 1) (by simp)
  have hd1 := h0.now hb
  have ht1 := ht.now hb
  clear hb0 ht
  go_enter Tryz.func50, Tryz.ntmps50
  go_upto_region 1 with fail
  generalize hw1e : (w.alloc (.cells #[.int .i64 n.places, .slice At n.trans.length ct, .int .i64 n.source, .int .i64 n.sink] 24)).alloc (.cells #[.int .i64 0, .slice none 0 0, .int .i64 0, .int .i64 0, .slice none 0 0, .slice none 0 0, .slice none 0 0, .slice none 0 0] 30) = w1 at *
  clear hw1e
  obtain ⟨q0, q1, q2, q3⟩ := hB.c4
  go_wp2_with fail
  refine (valid_any n _ _ hd1).mono ?_
  rintro e w2 ⟨rfl, hb2⟩
  have hbw2 := bthen hb hb2
  have hB2 := hB.now hb2
  have hZ2 := hZ.now hb2
  have ht2 := ht1.now hb2
  clear q0 q1 q2 q3 hB hZ hd1 ht1 hb2
  have hsz2 : w.heap.size + 2 ≤ w2.heap.size := by have := hZ2.lt; omega
  cases hq : validB n
  · have HR : Hid (∀ v w', IsDn 1 (Lt w'.heap.size) w' v (plainD emptyN) → Below w.heap.size w w' → RetPl n w (.returned (.tuple #[v, .int .i64 1])) w') := by
      intro v w' h1 h2
      refine ⟨v, ?_, ?_, h2⟩
      · rw [hq]; rfl
      · rw [hq]; exact h1
    clear hq
    obtain ⟨z0, z1, z2, z3, z4, z5, z6, z7⟩ := hZ2.c8
    have zf := hZ2.frozen
    have f0 := zf 0
    have f1 := zf 1
    have f2 := zf 2
    have f3 := zf 3
    have f4 := zf 4
    have f5 := zf 5
    have f6 := zf 6
    have f7 := zf 7
    clear zf
    go_wp2_with fail
    have hZ9 := hZ2.set8 (.int .i64 0) (.slice none 0 0) (.int .i64 0) (.int .i64 0) (.slice none 0 0) (.slice none 0 0) (.slice none 0 0) (.slice none 0 0)
    obtain ⟨r0, r1, r2, r3, r4, r5, r6, r7⟩ := hZ9.c8
    refine bodyPost_ret (v := .tuple #[.agg #[.int .i64 0, .slice none 0 0, .int .i64 0, .int .i64 0, .slice none 0 0, .slice none 0 0, .slice none 0 0, .slice none 0 0], .int .i64 1]) (by simp [results, Tryz.results50, go_sem, r0, r1, r2, r3, r4, r5, r6, r7]) rfl ?_
    refine HR.out _ _ ?_ (Below.set8 hbw2 (g := w.heap.size + 1) (by omega) _ _ _ _ _ _ _ _)
    exact ⟨_, _, _, _, _, rfl, ⟨_, rfl, by unfold Fit emptyN plainD; simp, by unfold Fit emptyN plainD; simp, by unfold Fit emptyN plainD; simp, Sl.none_⟩, Sl.none_, Sl.none_, Sl.none_, Sl.none_⟩
  have HR : Hid (∀ v w', IsDn 1 (Lt w'.heap.size) w' v (plainD n) → Below w.heap.size w w' → RetPl n w (.returned (.tuple #[v, .int .i64 0])) w') := by
    intro v w' h1 h2
    refine ⟨v, ?_, ?_, h2⟩
    · rw [hq]; rfl
    · rw [hq]; exact h1
  obtain ⟨v1, v2, v3, v4⟩ := validOk hq
  have HLI : Hid (∀ t ∈ n.trans, t.ins.length ≤ 40 ∧ t.outs.length ≤ 40) := fun t htt => by
    have a := places_len (trPlaces (v4 t htt)).1
    have b := places_len (trPlaces (v4 t htt)).2
    omega
  clear v4 hq v1 v2
  obtain ⟨q0, q1, q2, q3⟩ := hB2.c4
  go_upto_region 5 with fail
  have hG4 := Blk.new w2 30 #[.int .i64 n.places, .slice none 0 0, .int .i64 n.source, .int .i64 n.sink, .slice none 0 0, .slice none 0 0, .slice none 0 0, .slice none 0 0]
  have hb4 := bone w2 (.cells #[.int .i64 n.places, .slice none 0 0, .int .i64 n.source, .int .i64 n.sink, .slice none 0 0, .slice none 0 0, .slice none 0 0, .slice none 0 0] 30)
  have hl4 := hG4.lt
  clear q0 q1 q2 q3
  generalize hw4 : w2.alloc (.cells #[.int .i64 n.places, .slice none 0 0, .int .i64 n.source, .int .i64 n.sink, .slice none 0 0, .slice none 0 0, .slice none 0 0, .slice none 0 0] 30) = w4 at *
  clear hw4
  have hI4 : PlI w4 (w2.heap.size + 1) w2.heap.size n (.slice none 0 0) (.slice none 0 0) (.slice none 0 0) 0 0 0 := ⟨OwnR.nil, OwnW.nil, OwnW.nil, hG4, Nat.lt_succ_self _⟩
  have hB4 := hB2.now hb4
  obtain ⟨q0, q1, q2, q3⟩ := hB4.c4
  clear hG4
  go_wp2_with fail
  clear q0 q1 q2 q3 hB4
  go_loopw [18] (fun iv wr => ∃ (k : Nat) (tv gv wv : Value), iv = .int .i64 k ∧ k ≤ n.trans.length ∧ PlI wr (w2.heap.size + 1) w2.heap.size n tv gv wv k k k ∧ Below w2.heap.size w2 wr ∧ w2.heap.size + 1 ≤ wr.heap.size) (fun iv _ => n.trans.length - (intOf iv).toNat)
  case atStart => exact ⟨0, _, _, _, rfl, Nat.zero_le _, hI4, hb4, hl4⟩
  case round =>
    obtain ⟨k, tv, gv, wv, rfl, hk, hI, hbr, hszr⟩ := hrel
    clear hI4 hb4 hl4
    obtain ⟨Av, cv, hAv⟩ := hI.tr.open_
    rw [List.length_take, Nat.min_eq_left hk] at hAv
    subst hAv
    obtain ⟨Ag, cg, rfl⟩ := OwnG.form hI.og
    obtain ⟨Aw, cw, rfl⟩ := OwnN.form hI.on
    have hbwr := bthen hbw2 hbr
    by_cases hlt : k < n.trans.length
    · obtain ⟨b, o, t, iv, ov, rfl, hD, hx, hlb, hti, hto, d0, d1, d2⟩ := (ht2.now hbr).at_ hlt
      have HX := Lib.hid hx
      have hls := HLI.out t (List.mem_of_getElem? hx)
      clear hx
      obtain ⟨Ai, ci, rfl, i1, i2, hti⟩ := hti.open_
      obtain ⟨Ao, co, rfl, o1, o2, hto⟩ := hto.open_
      have hTd := Blk.new wr 112 #[.string t.label, .slice Ai t.ins.length ci, .slice Ao t.outs.length co]
      have hbo := bone wr (.cells #[.string t.label, .slice Ai t.ins.length ci, .slice Ao t.outs.length co] 112)
      have hId := hI.now hbo
      have htid := hti.now hbo
      have htod := hto.now hbo
      have hbd := bthen hbr hbo
      have hszd := Nat.le_trans hszr hbo.size
      have hltd := hTd.lt
      go_upto_region 8 with fail
      generalize hwd : wr.alloc (.cells #[.string t.label, .slice Ai t.ins.length ci, .slice Ao t.outs.length co] 112) = wd at *
      clear hwd hti hto hbo d0 d1 d2
      have hnt : (Value.slice Av k cv).ownBlock ≠ some wr.heap.size := fun e => by have := (hI.tr.lt _ e).2; omega
      clear hI
      obtain ⟨e0, e1, e2⟩ := hTd.c3
      obtain ⟨m0, m1, m2, m3, m4, m5, m6, m7⟩ := hId.bl.c8
      have HCO : Hid (∀ W, Below wd.heap.size wd W → Calls Tryz.prog 64 #[.slice Ao t.outs.length co] W fun e w' => ∃ A c, e = .returned (.slice A t.outs.length c) ∧ SlI (Fr wd.heap.size w') w' (.slice A t.outs.length c) t.outs ∧ Below wd.heap.size wd w' ∧ Below W.heap.size W w') := fun W hW => cloneI_grown _ t.outs wd W htod hW (by omega)
      have HCI : Hid (∀ W, Below wd.heap.size wd W → Calls Tryz.prog 64 #[.slice Ai t.ins.length ci] W fun e w' => ∃ A c, e = .returned (.slice A t.ins.length c) ∧ SlI (Fr wd.heap.size w') w' (.slice A t.ins.length c) t.ins ∧ Below wd.heap.size wd w' ∧ Below W.heap.size W w') := fun W hW => cloneI_grown _ t.ins wd W htid hW (by omega)
      have HEL : Hid (∀ (W : World) (vi vo : Value), SlI (Fr wd.heap.size W) W vi t.ins → SlI (Fr wd.heap.size W) W vo t.outs → RTr (Off (PlX (w2.heap.size + 1) (.slice Ag k cg) (.slice Aw k cw)) W (.slice Av k cv)) W t [.string t.label, vi, vo]) := by
        intro W vi vo h1 h2
        have hd : ∀ b, Fr wd.heap.size W b → Off (PlX (w2.heap.size + 1) (.slice Ag k cg) (.slice Aw k cw)) W (.slice Av k cv) b := fun b hb => ⟨hb.2, fun e => by have := (hId.tr.lt b e).2; have := hb.1; omega, fun e => by
          have h3 := hb.1
          rcases e with e | e | e
          · omega
          · have := (World.ownsRow.lt hId.og b e).2; omega
          · have := (World.ownsRow.lt hId.on b e).2; omega⟩
        exact ⟨vi, vo, rfl, hlb, Sl.keep h1 RInt.kept hd (Same.refl _ _), Sl.keep h2 RInt.kept hd (Same.refl _ _)⟩
      have hbdd : Below wd.heap.size wd wd.drew := (Below.refl _ _).drew
      have hk7 : (n.trans.take k).length < 10000000 := by rw [List.length_take]; omega
      have HS : Hid (∀ W, Below wd.heap.size wd W → W.cell? ⟨wr.heap.size, 0, none⟩ = some (.string t.label) ∧ W.cell? ⟨wr.heap.size, 1, none⟩ = some (.slice Ai t.ins.length ci) ∧ W.cell? ⟨wr.heap.size, 2, none⟩ = some (.slice Ao t.outs.length co) ∧ W.cell? ⟨w2.heap.size, 1, none⟩ = some (.slice Av k cv)) := fun W hW => ⟨(hTd.now hW).c3.1, (hTd.now hW).c3.2.1, (hTd.now hW).c3.2.2, ((hId.now hW).bl.c8).2.1⟩
      clear htid htod
      refine wp_region_held_tail 13 (fun W => W.cell? ⟨wr.heap.size, 0, none⟩ = some (.string t.label) ∧ W.cell? ⟨wr.heap.size, 1, none⟩ = some (.slice Ai t.ins.length ci) ∧ W.cell? ⟨wr.heap.size, 2, none⟩ = some (.slice Ao t.outs.length co) ∧ W.cell? ⟨w2.heap.size, 1, none⟩ = some (.slice Av k cv)) (by kernel_rfl) (by kernel_rfl) ⟨e0, e1, e2, m1⟩ (fun hHeld => ?_)
      simp only [List.take_succ_cons, List.take_zero]
      refine takeL (v := ?v0) 0 rfl (by kernel_rfl) (by kernel_rfl) (by kernel_rfl) (fun _ _ _ h => h) rfl ?hy0 hHeld ?rest0
      case hy0 => (intro W hW; obtain ⟨k0, k1, k2, k3⟩ := hW; go_simp <;> rfl)
      simp only [Act.put, List.setIfInBounds_toArray, List.set_cons_zero, List.set_cons_succ]
      refine takeL (v := ?v1) 1 rfl (by kernel_rfl) (by kernel_rfl) (by kernel_rfl) (fun _ _ _ h => h) rfl ?hy1 hHeld ?rest1
      case hy1 => (intro W hW; obtain ⟨k0, k1, k2, k3⟩ := hW; go_simp <;> rfl)
      simp only [Act.put, List.setIfInBounds_toArray, List.set_cons_zero, List.set_cons_succ]
      refine takeL (v := ?v2) 2 rfl (by kernel_rfl) (by kernel_rfl) (by kernel_rfl) (fun _ _ _ h => h) rfl ?hy2 hHeld ?rest2
      case hy2 => (intro W hW; obtain ⟨k0, k1, k2, k3⟩ := hW; go_simp <;> rfl)
      simp only [Act.put, List.setIfInBounds_toArray, List.set_cons_zero, List.set_cons_succ]
      refine takeL (v := ?v3) 3 rfl (by kernel_rfl) (by kernel_rfl) (by kernel_rfl) (fun _ _ _ h => h) rfl ?hy3 hHeld ?rest3
      case hy3 => (intro W hW; obtain ⟨k0, k1, k2, k3⟩ := hW; go_simp <;> rfl)
      simp only [Act.put, List.setIfInBounds_toArray, List.set_cons_zero, List.set_cons_succ]
      refine takeL (v := ?v4) 4 rfl (by kernel_rfl) (by kernel_rfl) (by kernel_rfl) (fun _ _ _ h => h) rfl ?hy4 hHeld ?rest4
      case hy4 => (intro W hW; obtain ⟨k0, k1, k2, k3⟩ := hW; go_simp <;> rfl)
      simp only [Act.put, List.setIfInBounds_toArray, List.set_cons_zero, List.set_cons_succ]
      refine takeL (v := ?v5) 5 rfl (by kernel_rfl) (by kernel_rfl) (by kernel_rfl) (fun _ _ _ h => h) rfl ?hy5 hHeld ?rest5
      case hy5 => (intro W hW; obtain ⟨k0, k1, k2, k3⟩ := hW; go_simp <;> rfl)
      simp only [Act.put, List.setIfInBounds_toArray, List.set_cons_zero, List.set_cons_succ]
      refine takeL (v := ?v6) 6 rfl (by kernel_rfl) (by kernel_rfl) (by kernel_rfl) (fun _ _ _ h => h) rfl ?hy6 hHeld ?rest6
      case hy6 => (intro W hW; obtain ⟨k0, k1, k2, k3⟩ := hW; go_simp <;> rfl)
      simp only [Act.put, List.setIfInBounds_toArray, List.set_cons_zero, List.set_cons_succ]
      refine takeL (v := ?v8) 8 rfl (by kernel_rfl) (by kernel_rfl) (by kernel_rfl) (fun _ _ _ h => h) rfl ?hy8 hHeld ?rest8
      case hy8 => (intro W hW; obtain ⟨k0, k1, k2, k3⟩ := hW; go_simp <;> rfl)
      simp only [Act.put, List.setIfInBounds_toArray, List.set_cons_zero, List.set_cons_succ]
      refine takeL (v := ?v9) 9 rfl (by kernel_rfl) (by kernel_rfl) (by kernel_rfl) (fun _ _ _ h => h) rfl ?hy9 hHeld ?rest9
      case hy9 => (intro W hW; obtain ⟨k0, k1, k2, k3⟩ := hW; go_simp <;> rfl)
      simp only [Act.put, List.setIfInBounds_toArray, List.set_cons_zero, List.set_cons_succ]
      refine onlyL 7 rfl rfl (by kernel_rfl) (fun K hK => ?_)
      go_simp
      refine (HCI.out _ hbdd).mono ?_
      rintro e wi ⟨Avi, cvi, rfl, hgi, hbi1, hbi2⟩
      refine hK.out _ _ (HS.out _ hbi1) (fun hHeld => ?_)
      clear hK K
      refine onlyL 10 rfl rfl (by kernel_rfl) (fun K hK => ?_)
      go_simp
      refine (HCO.out _ hbi1).mono ?_
      rintro e wo ⟨Avo, cvo, rfl, hgo, hbo1, hbo2⟩
      refine hK.out _ _ (HS.out _ hbo1) (fun hHeld => ?_)
      clear hK K
      refine takeL (v := ?v11) 11 rfl (by kernel_rfl) (by kernel_rfl) (by kernel_rfl) (fun _ _ _ h => h) rfl ?hy11 hHeld ?rest11
      case hy11 => (intro W hW; go_simp <;> rfl)
      simp only [Act.put, List.setIfInBounds_toArray, List.set_cons_zero, List.set_cons_succ]
      refine onlyL 12 rfl rfl (by kernel_rfl) (fun K hK => ?_)
      go_simp
      refine hK.out _ _ (HS.out _ (bbox hbo1 (.cells #[.string t.label, .slice Avi t.ins.length cvi, .slice Avo t.outs.length cvo] 112))) (fun hHeld => ?_)
      clear hK K
      refine doneL (by kernel_rfl) ?_
      simp only [List.drop_succ_cons, List.drop_zero]
      have hIo := hId.now hbo1
      have hszo := Nat.le_trans hszd hbo1.size
      refine wpList_pushR appTrs RTr.kept rfl (.tmp 24) (.tmp 34) rfl wo [.string t.label, .slice Avi t.ins.length cvi, .slice Avo t.outs.length cvo] rfl (by simp [Value.oneCell']) (.slice Av k cv) (n.trans.take k) t rfl hIo.tr (HEL.out _ _ _ (hgi.nowF hbo2) hgo) rfl hk7 hszo ?_
      intro v' w' hown' hgr hat
      obtain ⟨A9, c9, hA9⟩ := hown'.open_
      rw [List.length_append, List.length_take, Nat.min_eq_left hk] at hA9
      have hA9 : v' = .slice A9 (k + 1) c9 := hA9
      subst hA9
      obtain ⟨hB9, hI9, hb9⟩ := hIo.pushT HX.out hown' hgr hszo
      obtain ⟨n0, n1, n2, n3, n4, n5, n6, n7⟩ := hB9.c8
      have nf := hB9.frozen 1
      go_upto_region 9 with fail
      have hsz9 : w2.heap.size + 1 ≤ (w'.setCell ⟨w2.heap.size, 1, none⟩ (.slice A9 (k + 1) c9)).heap.size := by have := hgr.size; simp; omega
      have hbr9 : Below w2.heap.size w2 (w'.setCell ⟨w2.heap.size, 1, none⟩ (.slice A9 (k + 1) c9)) := ((bthen hbd hbo1).trans (hb9.mono (by omega))).setCell (p := ⟨w2.heap.size, 1, none⟩) (by show w2.heap.size ≤ w2.heap.size; omega) _
      generalize hw9 : w'.setCell ⟨w2.heap.size, 1, none⟩ (.slice A9 (k + 1) c9) = w9 at *
      clear hw9 n0 n1 n2 n3 n4 n5 n6 n7 nf hgr hat hb9 hB9 hown' hIo hId hgi hgo hbi1 hbi2 hbo1 hbo2 hbd hbdd hTd HEL HCO HCI HS hszo hszd hltd m0 m1 m2 m3 m4 m5 m6 m7 e0 e1 e2 hk7 hbwr hbr hszr
      obtain ⟨n0, n1, n2, n3, n4, n5, n6, n7⟩ := hI9.bl.c8
      have nf := hI9.bl.frozen 6
      have hkm : k < 10000000 := by omega
      go_upto_region 10 with (at_builtin; refine wpList_pushW (fc := fcT) appExs rfl (.tmp 39) (.tmp 42) rfl w9 () (List.replicate k ()) rfl trueC_one _ rfl hI9.og rfl (by simp; omega) hsz9 ?_; intro v' w' hog' hgr hat; have hog2 : OwnG w' (w2.heap.size + 1) v' (k + 1) := OwnG.push hog'; obtain ⟨A8, c8, rfl⟩ := OwnG.form hog2; obtain ⟨hB8, hI8, hb8⟩ := hI9.pushG hog2 hgr hat hsz9; obtain ⟨p0, p1, p2, p3, p4, p5, p6, p7⟩ := hB8.c8; have pf := hB8.frozen 6)
      have hsz8 : w2.heap.size + 1 ≤ (w'.setCell ⟨w2.heap.size, 6, none⟩ (.slice A8 (k + 1) c8)).heap.size := by have := hgr.size; simp; omega
      have hbr8 : Below w2.heap.size w2 (w'.setCell ⟨w2.heap.size, 6, none⟩ (.slice A8 (k + 1) c8)) := (hbr9.trans (hb8.mono (by omega))).setCell (p := ⟨w2.heap.size, 6, none⟩) (by show w2.heap.size ≤ w2.heap.size; omega) _
      generalize hw8 : w'.setCell ⟨w2.heap.size, 6, none⟩ (.slice A8 (k + 1) c8) = w8 at *
      clear hw8 n0 n1 n2 n3 n4 n5 n6 n7 nf hgr hat hb8 hB8 hog' hog2 hI9 hbr9 hsz9 p0 p1 p2 p3 p4 p5 p6 p7 pf
      obtain ⟨n0, n1, n2, n3, n4, n5, n6, n7⟩ := hI8.bl.c8
      have nf := hI8.bl.frozen 7
      go_wp2_with (at_builtin; refine wpList_pushW (fc := fcN) appWWs rfl (.tmp 46) (.tmp 47) rfl w8 () (List.replicate k ()) rfl nilC_one _ rfl hI8.on rfl (by simp; omega) hsz8 ?_; intro v' w' hon' hgr hat; have hon2 : OwnN w' (w2.heap.size + 1) v' (k + 1) := OwnN.push hon'; obtain ⟨A7, c7, rfl⟩ := OwnN.form hon2; obtain ⟨hB7, hI7, hb7⟩ := hI8.pushN hon2 hgr hat hsz8; obtain ⟨p0, p1, p2, p3, p4, p5, p6, p7⟩ := hB7.c8; have pf := hB7.frozen 7)
      have hsz7 : w2.heap.size + 1 ≤ (w'.setCell ⟨w2.heap.size, 7, none⟩ (.slice A7 (k + 1) c7)).heap.size := by have := hgr.size; simp; omega
      have hbr7 : Below w2.heap.size w2 (w'.setCell ⟨w2.heap.size, 7, none⟩ (.slice A7 (k + 1) c7)) := (hbr8.trans (hb7.mono (by omega))).setCell (p := ⟨w2.heap.size, 7, none⟩) (by show w2.heap.size ≤ w2.heap.size; omega) _
      go_roundw
      case rel => exact ⟨k + 1, _, _, _, by go_num, by omega, hI7, hbr7, hsz7⟩
      case measure => simp [intOf]; omega
    · obtain rfl : k = n.trans.length := by omega
      have hZr := hZ2.now hbr
      obtain ⟨m0, m1, m2, m3, m4, m5, m6, m7⟩ := hI.bl.c8
      have zf := hZr.frozen
      have f0 := zf 0
      have f1 := zf 1
      have f2 := zf 2
      have f3 := zf 3
      have f4 := zf 4
      have f5 := zf 5
      have f6 := zf 6
      have f7 := zf 7
      obtain ⟨z0, z1, z2, z3, z4, z5, z6, z7⟩ := hZr.c8
      clear zf
      go_wp2_with fail
      have hZ9 := hZr.set8 (.int .i64 n.places) (.slice Av n.trans.length cv) (.int .i64 n.source) (.int .i64 n.sink) (.slice none 0 0) (.slice none 0 0) (.slice Ag n.trans.length cg) (.slice Aw n.trans.length cw)
      obtain ⟨r0, r1, r2, r3, r4, r5, r6, r7⟩ := hZ9.c8
      refine bodyPost_ret (v := .tuple #[.agg #[.int .i64 n.places, .slice Av n.trans.length cv, .int .i64 n.source, .int .i64 n.sink, .slice none 0 0, .slice none 0 0, .slice Ag n.trans.length cg, .slice Aw n.trans.length cw], .int .i64 0]) (by simp [results, Tryz.results50, go_sem, r0, r1, r2, r3, r4, r5, r6, r7]) rfl ?_
      have hbF := Below.set8 hbwr (g := w.heap.size + 1) (by omega) (.int .i64 n.places) (.slice Av n.trans.length cv) (.int .i64 n.source) (.int .i64 n.sink) (.slice none 0 0) (.slice none 0 0) (.slice Ag n.trans.length cg) (.slice Aw n.trans.length cw)
      refine HR.out _ _ ?_ hbF
      have htl := hI.tr.far8 RTr.kept (g := w.heap.size + 1) (.inl (by omega)) (own_low hI.tr.lt (by omega)) (.int .i64 n.places) (.slice Av n.trans.length cv) (.int .i64 n.source) (.int .i64 n.sink) (.slice none 0 0) (.slice none 0 0) (.slice Ag n.trans.length cg) (.slice Aw n.trans.length cw)
      rw [List.take_of_length_le (Nat.le_refl _)] at htl
      exact plain_is rfl ⟨_, rfl, hp, hs, hkk, htl.sl RTr.kept⟩ (OwnW.far8 hI.og (by omega) _ _ _ _ _ _ _ _) (OwnW.far8 hI.on (by omega) _ _ _ _ _ _ _ _)
end Go.Proofs.YtlmenhjlgmejkaaGreatDoor
