/- graph.classes: the strong components' numbers. -/
import Derived.Test.YtlkkfkkhllijbaaDoorGather
import Derived.Test.YtlkkfkkhllijbaaDoorMakeB
import Derived.Test.YtlkkfkkhllijbaaDoorVisit
import Derived.Deep.CutRange
import Derived.Deep.CutBlock
import Derived.Laws.EntriesVeiled
namespace Go.Proofs.YtlkkfkkhllijbaaDoor
open Go.RowKit

theorem alSl (W : World) : (Instr.alloc 28 true (.tuple #[])).run Tryd.prog W = .ok (.pointer (some ⟨W.heap.size, 0, none⟩)) (W.alloc (.cells #[.slice none 0 0] 28)) := by kernel_rfl
theorem intInfo' : (Tryd.prog.info? 3).map (fun i => (i.zero, i.size, i.bytes)) = some (some (.int .i64 0), 1, 8) := by kernel_rfl
def OwnZ (W : World) (S0 T g N : Nat) : Prop := OwnF natV W S0 T g N (List.replicate N 0)
/-- What the operations of the region have made. -/
def rgF (gb N S0 T U : Nat) : Nat → (Nat → Value) → World → Prop
  | 0, τ, _ => τ 0 = .pointer (some ⟨gb, 0, none⟩)
  | 1, τ, _ => τ 1 = .int .i64 (N : Int)
  | 2, τ, W => ∃ g : Nat, τ 2 = .slice (some ⟨g, 0, none⟩) N N ∧ OwnZ W S0 T g N
  | 3, τ, _ => τ 3 = .pointer (some ⟨gb, 0, none⟩)
  | 4, τ, _ => τ 4 = .int .i64 (N : Int)
  | 5, τ, W => ∃ g : Nat, τ 5 = .slice (some ⟨g, 0, none⟩) N N ∧ OwnZ W S0 T g N
  | 6, τ, _ => τ 6 = .pointer (some ⟨gb, 0, none⟩)
  | 7, τ, _ => τ 7 = .int .i64 (N : Int)
  | 8, τ, W => ∃ g : Nat, τ 8 = .slice (some ⟨g, 0, none⟩) N N ∧ OwnZ W S0 T g N
  | 9, τ, W => ∃ p : Nat, τ 9 = .pointer (some ⟨p, 0, none⟩) ∧ ∃ u, Blk W p U #[u]
  | 10, τ, W => ∃ p : Nat, τ 10 = .pointer (some ⟨p, 0, none⟩) ∧ ∃ u, Blk W p U #[u]
  | 11, τ, W => ∃ p : Nat, τ 11 = .pointer (some ⟨p, 0, none⟩) ∧ ∃ u, Blk W p U #[u]
  | 12, τ, W => ∃ p g : Nat, τ 9 = .pointer (some ⟨p, 0, none⟩) ∧ τ 2 = .slice (some ⟨g, 0, none⟩) N N ∧ Blk W p U #[.slice (some ⟨g, 0, none⟩) N N]
  | 13, τ, W => ∃ p g : Nat, τ 10 = .pointer (some ⟨p, 0, none⟩) ∧ τ 5 = .slice (some ⟨g, 0, none⟩) N N ∧ Blk W p U #[.slice (some ⟨g, 0, none⟩) N N]
  | 14, τ, W => ∃ p g : Nat, τ 11 = .pointer (some ⟨p, 0, none⟩) ∧ τ 8 = .slice (some ⟨g, 0, none⟩) N N ∧ Blk W p U #[.slice (some ⟨g, 0, none⟩) N N]
  | _, _, _ => True
theorem rgKeep {gb N S0 T U : Nat} {listed : Array Bool} {i : Nat} {τ τ' : Nat → Value} {W W' : World} (hi : ¬ Up listed i) (hup : ∀ c, c < 3 → Up listed (12 + c) → Up listed (9 + c) ∧ Up listed (3 * c + 2)) (ht : ∀ j, j < 15 → j ≠ i → τ' j = τ j)
    (hO : ∀ j, (j = 2 ∨ j = 5 ∨ j = 8) → Up listed j → ∀ g : Nat, τ j = .slice (some ⟨g, 0, none⟩) N N → OwnZ W S0 T g N → OwnZ W' S0 T g N)
    (hB : ∀ j, (j = 9 ∨ j = 10 ∨ j = 11) → Up listed j → ∀ (p : Nat) (u : Value), τ j = .pointer (some ⟨p, 0, none⟩) → Blk W p U #[u] → ∃ u', Blk W' p U #[u'])
    (hS : ∀ j, (j = 12 ∨ j = 13 ∨ j = 14) → j ≠ i → Up listed j → ∀ (p : Nat) (u : Value), τ (j - 3) = .pointer (some ⟨p, 0, none⟩) → Blk W p U #[u] → Blk W' p U #[u])
    (hf : ∀ j, j < 15 → Up listed j → rgF gb N S0 T U j τ W) : ∀ j, j < 15 → j ≠ i → Up listed j → rgF gb N S0 T U j τ' W' := by
  intro j hj hji hu
  have hne : ∀ k, Up listed k → k ≠ i := fun k hk e => hi (e ▸ hk)
  match j, hj with
  | 0, _ =>
    exact (ht 0 (by decide) hji).trans (hf 0 (by decide) hu)
  | 1, _ =>
    exact (ht 1 (by decide) hji).trans (hf 1 (by decide) hu)
  | 2, _ =>
    obtain ⟨g, e, h⟩ := hf 2 (by decide) hu
    exact ⟨g, (ht 2 (by decide) hji).trans e, hO 2 (by decide) hu g e h⟩
  | 3, _ =>
    exact (ht 3 (by decide) hji).trans (hf 3 (by decide) hu)
  | 4, _ =>
    exact (ht 4 (by decide) hji).trans (hf 4 (by decide) hu)
  | 5, _ =>
    obtain ⟨g, e, h⟩ := hf 5 (by decide) hu
    exact ⟨g, (ht 5 (by decide) hji).trans e, hO 5 (by decide) hu g e h⟩
  | 6, _ =>
    exact (ht 6 (by decide) hji).trans (hf 6 (by decide) hu)
  | 7, _ =>
    exact (ht 7 (by decide) hji).trans (hf 7 (by decide) hu)
  | 8, _ =>
    obtain ⟨g, e, h⟩ := hf 8 (by decide) hu
    exact ⟨g, (ht 8 (by decide) hji).trans e, hO 8 (by decide) hu g e h⟩
  | 9, _ =>
    obtain ⟨p, e, u, h⟩ := hf 9 (by decide) hu
    exact ⟨p, (ht 9 (by decide) hji).trans e, hB 9 (by decide) hu p u e h⟩
  | 10, _ =>
    obtain ⟨p, e, u, h⟩ := hf 10 (by decide) hu
    exact ⟨p, (ht 10 (by decide) hji).trans e, hB 10 (by decide) hu p u e h⟩
  | 11, _ =>
    obtain ⟨p, e, u, h⟩ := hf 11 (by decide) hu
    exact ⟨p, (ht 11 (by decide) hji).trans e, hB 11 (by decide) hu p u e h⟩
  | 12, _ =>
    obtain ⟨p, g, e, e2, h⟩ := hf 12 (by decide) hu
    obtain ⟨u1, u2⟩ := hup 0 (by decide) hu
    exact ⟨p, g, (ht 9 (by decide) (hne _ u1)).trans e, (ht 2 (by decide) (hne _ u2)).trans e2, hS 12 (by decide) hji hu p _ e h⟩
  | 13, _ =>
    obtain ⟨p, g, e, e2, h⟩ := hf 13 (by decide) hu
    obtain ⟨u1, u2⟩ := hup 1 (by decide) hu
    exact ⟨p, g, (ht 10 (by decide) (hne _ u1)).trans e, (ht 5 (by decide) (hne _ u2)).trans e2, hS 13 (by decide) hji hu p _ e h⟩
  | 14, _ =>
    obtain ⟨p, g, e, e2, h⟩ := hf 14 (by decide) hu
    obtain ⟨u1, u2⟩ := hup 2 (by decide) hu
    exact ⟨p, g, (ht 11 (by decide) (hne _ u1)).trans e, (ht 8 (by decide) (hne _ u2)).trans e2, hS 14 (by decide) hji hu p _ e h⟩
def mkB (i : Nat) : Bool := i == 2 || i == 5 || i == 8 || i == 9 || i == 10 || i == 11

theorem sb_ok {L : List Nat} {t : Nat} (hl : L.length = 11) (hn : L.Nodup) (hle : ∀ x ∈ L, x ≤ t) (ht : L.getD 10 0 = t) : SB.ok ⟨fun i => L.getD i 0, t⟩ := by
  have hg : ∀ i (hi : i < 11), L.getD i 0 = L[i]'(by omega) := fun i hi => by rw [List.getD_eq_getElem?_getD, List.getElem?_eq_getElem (by omega)]; rfl
  refine ⟨fun i j hi hj hne e => ?_, fun i hi => ?_, ht.symm⟩
  · have hp := List.pairwise_iff_getElem.1 hn
    have e : L[i]'(by omega) = L[j]'(by omega) := by
      have e1 : L.getD i 0 = L.getD j 0 := e
      rwa [hg i hi, hg j hj] at e1
    rcases Nat.lt_or_gt_of_ne hne with h | h
    · exact hp i j (by omega) (by omega) h e
    · exact hp j i (by omega) (by omega) h e.symm
  · show L.getD i 0 ≤ t
    rw [hg i hi]
    exact hle _ (List.getElem_mem _)
def sbOf (n a b c d e f z : Nat) : SB := ⟨fun i => [n, a, b, c, d, e, f, z, z + 1, z + 1 + 1, z + 1 + 1 + 1].getD i 0, z + 1 + 1 + 1⟩
theorem sbOf_from {n a b c d e f z base : Nat} (h : base ≤ n ∧ base ≤ a ∧ base ≤ b ∧ base ≤ c ∧ base ≤ d ∧ base ≤ e ∧ base ≤ f ∧ base ≤ z) : ∀ i, i < 11 → base ≤ (sbOf n a b c d e f z).at_ i := by
  intro i hi
  obtain ⟨h0, h1, h2, h3, h4, h5, h6, h7⟩ := h
  match i, hi with
  | 0, _ => exact h0
  | 1, _ => exact h1
  | 2, _ => exact h2
  | 3, _ => exact h3
  | 4, _ => exact h4
  | 5, _ => exact h5
  | 6, _ => exact h6
  | 7, _ => exact h7
  | 8, _ => show base ≤ z + 1; omega
  | 9, _ => show base ≤ z + 1 + 1; omega
  | 10, _ => show base ≤ z + 1 + 1 + 1; omega
theorem capV_of (n a b c d e f z : Nat) : capV (sbOf n a b c d e f z) = #[.pointer (some ⟨z + 1, 0, none⟩), .pointer (some ⟨b, 0, none⟩), .pointer (some ⟨a, 0, none⟩), .pointer (some ⟨z, 0, none⟩), .pointer (some ⟨n, 0, none⟩), .pointer (some ⟨z + 1 + 1 + 1, 0, none⟩), .pointer (some ⟨c, 0, none⟩), .pointer (some ⟨z + 1 + 1, 0, none⟩)] := rfl
theorem mem_start {w : World} {n a b c d e f z base N : Nat} {nv : Value} (hn : [n, a, b, c, d, e, f].Nodup) (hz : n < z ∧ a < z ∧ b < z ∧ c < z ∧ d < z ∧ e < z ∧ f < z)
    (hnx : Blk w n 37 #[nv]) (hlo : Blk w a 28 #[.slice (some ⟨d, 0, none⟩) N N]) (hix : Blk w b 28 #[.slice (some ⟨e, 0, none⟩) N N]) (hcl : Blk w c 28 #[.slice (some ⟨f, 0, none⟩) N N])
    (hst : Blk w z 28 #[.slice none 0 0]) (hct : Blk w (z + 1) 3 #[.int .i64 0]) (hcc : Blk w (z + 1 + 1) 3 #[.int .i64 0]) (hvi : Blk w (z + 1 + 1 + 1) 85 #[.nilFunc])
    (hgl : OwnF natV w base 3 d N (List.replicate N 0)) (hgi : OwnF natV w base 3 e N (List.replicate N 0)) (hgc : OwnF (Value.int .i64) w base 3 f N (List.replicate N (-1))) :
    MemT (w.setCell ⟨z + 1 + 1 + 1, 0, none⟩ (visitV (sbOf n a b c d e f z))) (sbOf n a b c d e f z) base N nv (.slice none 0 0) (TS.init N) := by
  obtain ⟨z0, z1, z2, z3, z4, z5, z6⟩ := hz
  have q0 := hnx.far (p := ⟨z + 1 + 1 + 1, 0, none⟩) (show n ≠ z + 1 + 1 + 1 by omega) (visitV (sbOf n a b c d e f z))
  have q1 := hlo.far (p := ⟨z + 1 + 1 + 1, 0, none⟩) (show a ≠ z + 1 + 1 + 1 by omega) (visitV (sbOf n a b c d e f z))
  have q2 := hix.far (p := ⟨z + 1 + 1 + 1, 0, none⟩) (show b ≠ z + 1 + 1 + 1 by omega) (visitV (sbOf n a b c d e f z))
  have q3 := hcl.far (p := ⟨z + 1 + 1 + 1, 0, none⟩) (show c ≠ z + 1 + 1 + 1 by omega) (visitV (sbOf n a b c d e f z))
  have q4 := hvi.set_ 0 (visitV (sbOf n a b c d e f z))
  have q5 := hst.far (p := ⟨z + 1 + 1 + 1, 0, none⟩) (show z ≠ z + 1 + 1 + 1 by omega) (visitV (sbOf n a b c d e f z))
  have q6 := hct.far (p := ⟨z + 1 + 1 + 1, 0, none⟩) (show z + 1 ≠ z + 1 + 1 + 1 by omega) (visitV (sbOf n a b c d e f z))
  have q7 := hcc.far (p := ⟨z + 1 + 1 + 1, 0, none⟩) (show z + 1 + 1 ≠ z + 1 + 1 + 1 by omega) (visitV (sbOf n a b c d e f z))
  have q8 := hgl.far (p := ⟨z + 1 + 1 + 1, 0, none⟩) (show z + 1 + 1 + 1 ≠ d by omega) (visitV (sbOf n a b c d e f z))
  have q9 := hgi.far (p := ⟨z + 1 + 1 + 1, 0, none⟩) (show z + 1 + 1 + 1 ≠ e by omega) (visitV (sbOf n a b c d e f z))
  have q10 := hgc.far (p := ⟨z + 1 + 1 + 1, 0, none⟩) (show z + 1 + 1 + 1 ≠ f by omega) (visitV (sbOf n a b c d e f z))
  generalize w.setCell ⟨z + 1 + 1 + 1, 0, none⟩ (visitV (sbOf n a b c d e f z)) = w' at *
  have hok : (sbOf n a b c d e f z).ok := by
    refine sb_ok rfl ?_ ?_ rfl
    · show ([n, a, b, c, d, e, f] ++ [z, z + 1, z + 1 + 1, z + 1 + 1 + 1]).Nodup
      rw [List.nodup_append]
      refine ⟨hn, by simp only [List.nodup_cons, List.mem_cons, List.not_mem_nil, not_or, not_false_eq_true, List.nodup_nil, and_true, or_false]; refine ⟨⟨?_, ?_, ?_⟩, ⟨?_, ?_⟩, ?_⟩ <;> omega, fun x hx y hy => ?_⟩
      clear hn
      simp only [List.mem_cons, List.not_mem_nil, or_false] at hx hy
      have h1 : x < z := by rcases hx with rfl | rfl | rfl | rfl | rfl | rfl | rfl <;> assumption
      omega
    · intro x hx
      simp only [List.mem_cons, List.not_mem_nil, or_false] at hx
      omega
  exact ⟨hok, q0, q1, q2, q3, q4, q5, q6, q7, q8, q9, q10, ⟨rfl, .inl ⟨rfl, rfl⟩⟩, fun g hg => by cases hg⟩

set_option maxHeartbeats 8000000 in
set_option maxRecDepth 100000 in
theorem classes_any (N : Nat) (es : List (Nat × Nat)) (A : Option Addr) (c : Nat) (w : World) (hes : SlE (Lt w.heap.size) w (.slice A es.length c) es) (hN : N ≤ 1000) (hl : es.length ≤ 20000) (hin : ∀ e ∈ es, e.1 < N ∧ e.2 < N) :
    Calls Tryd.prog 28 #[.agg #[.int .i64 (N : Int), .slice A es.length c]] w fun e w' => ∃ gc : Nat, e = .returned (.tuple #[.slice (some ⟨gc, 0, none⟩) N N, .int .i64 ((visitTo (nextE es) N N).cc : Int)]) ∧ SlI (Lt w'.heap.size) w' (.slice (some ⟨gc, 0, none⟩) N N) (visitTo (nextE es) N N).cls ∧ Below w.heap.size w w' := by
  have HIN := Lib.hid hin
  clear hin
  have hb := bone w (.cells #[.int .i64 (N : Int), .slice A es.length c] 35)
  have hB := Blk.new w 35 #[.int .i64 (N : Int), .slice A es.length c]
  go_enter Tryd.func28, Tryd.ntmps28
  go_upto_region 1 with fail
  obtain ⟨q0, q1⟩ := hB.c2
  go_wp2_with (go_at_call 29; refine (gathered_any N es A c _ (hes.now hb) hN hl HIN.out).mono ?_; rintro e w2 ⟨Gn, rfl, hrows, hb2⟩; generalize hW : @wpList = WL)
  subst hW
  have hrows := Sl.keep hrows RRow.kept (D' := Lt w2.heap.size) (fun _ h => h.2) (Same.refl _ _)
  have hbw2 := bthen hb hb2
  have hB2 := hB.now hb2
  clear q0 q1 hB hb hb2 hes
  go_upto_region 2 with fail
  have hb3 : Below w2.heap.size w2 (w2.alloc (.cells #[.slice (some ⟨Gn, 0, none⟩) N N] 37)) := bone _ _
  have hnx3 := Blk.new w2 37 #[.slice (some ⟨Gn, 0, none⟩) N N]
  have hB3 := hB2.now hb3
  have hlt3 : w2.heap.size < (w2.alloc (.cells #[.slice (some ⟨Gn, 0, none⟩) N N] 37)).heap.size := by simp
  generalize hw3 : w2.alloc (.cells #[.slice (some ⟨Gn, 0, none⟩) N N] 37) = w3 at *
  clear hw3 hB2
  have HMK := Lib.hid (run_make_n (P := Tryd.prog) 28 3 (.int .i64 0) 8 Tryd.underlying28 intInfo' N (by omega) (by omega) rfl)
  go_cut [5, 6, 7] from 16 to 24 (fun s5 s6 s7 W => ∃ p9 p10 p11 b2 b5 b8 : Nat, s5 = .pointer (some ⟨p9, 0, none⟩) ∧ s6 = .pointer (some ⟨p10, 0, none⟩) ∧ s7 = .pointer (some ⟨p11, 0, none⟩) ∧
      Blk W p9 28 #[.slice (some ⟨b2, 0, none⟩) N N] ∧ Blk W p10 28 #[.slice (some ⟨b5, 0, none⟩) N N] ∧ Blk W p11 28 #[.slice (some ⟨b8, 0, none⟩) N N] ∧
      OwnZ W w3.heap.size 3 b2 N ∧ OwnZ W w3.heap.size 3 b5 N ∧ OwnZ W w3.heap.size 3 b8 N ∧ [p9, p10, p11, b2, b5, b8].Nodup ∧ (∀ x ∈ [p9, p10, p11, b2, b5, b8], w3.heap.size ≤ x ∧ x < W.heap.size) ∧ Below w3.heap.size w3 W)
  case first =>
   rename_i J1 K1 hJ hK
   refine wp_region_mk (by kernel_rfl) (by kernel_rfl) (by kernel_rfl) mkB (rgF w.heap.size N w3.heap.size 3 28) ?hstep ?hmk ?hend ?hall
   case hall => exact hall_of (by kernel_rfl)
   case hmk =>
    intro i o ho hm
    match i, ho with
    | 0, ho => exact absurd hm (by decide)
    | 1, ho => exact absurd hm (by decide)
    | 2, ho => injection ho with ho; subst ho; simp
    | 3, ho => exact absurd hm (by decide)
    | 4, ho => exact absurd hm (by decide)
    | 5, ho => injection ho with ho; subst ho; simp
    | 6, ho => exact absurd hm (by decide)
    | 7, ho => exact absurd hm (by decide)
    | 8, ho => injection ho with ho; subst ho; simp
    | 9, ho => injection ho with ho; subst ho; simp
    | 10, ho => injection ho with ho; subst ho; simp
    | 11, ho => injection ho with ho; subst ho; simp
    | 12, ho => exact absurd hm (by decide)
    | 13, ho => exact absurd hm (by decide)
    | 14, ho => exact absurd hm (by decide)
    | n + 15, ho => simp at ho
   case hstep =>
    intro i o ho listed a W hsh hi hk hM
    have hni := ready_not hi
    have hup : ∀ c, c < 3 → Up listed (12 + c) → Up listed (9 + c) ∧ Up listed (3 * c + 2) := by
      intro c hc
      match c, hc with
      | 0, _ => exact fun h => ⟨hsh.up h (by kernel_rfl), hsh.up h (by kernel_rfl)⟩
      | 1, _ => exact fun h => ⟨hsh.up h (by kernel_rfl), hsh.up h (by kernel_rfl)⟩
      | 2, _ => exact fun h => ⟨hsh.up h (by kernel_rfl), hsh.up h (by kernel_rfl)⟩
    have hbW : Below w3.heap.size w3 W := (Below.refl _ _).drew.trans hM.below
    match i, ho with
    | 0, ho =>
     injection ho with ho
     subst ho
     have k1 : a.eval (.tmp 1) = .pointer (some ⟨w.heap.size, 0, none⟩) := hk.same (s := 1) (by kernel_rfl)
     exact wpM_field _ _ _ _ _ rfl k1 (by first | (simp [go_sem]; done) | (simp [go_sem]; rfl)) ⟨_, rfl, Below.refl _ _, fun h => absurd h (by decide), fun τ' t1 t2 => ⟨t1 (by simp), fun j hj hji hu => rgKeep hni hup t2 (fun _ _ _ _ _ h => h) (fun _ _ _ _ u _ h => ⟨u, h⟩) (fun _ _ _ _ _ _ _ h => h) hM.facts j hj hji hu⟩⟩
    | 1, ho =>
     injection ho with ho
     subst ho
     have e0 : a.eval (.tmp 16) = .pointer (some ⟨w.heap.size, 0, none⟩) := hM.facts 0 (by decide) (ready_up hi (by kernel_rfl))
     obtain ⟨q0, q1⟩ := (hB3.below hbW hB3.lt).c2
     exact wpM_load _ _ _ (.int .i64 (N : Int)) rfl e0 (by simp [go_sem, q0]) ⟨_, rfl, Below.refl _ _, fun h => absurd h (by decide), fun τ' t1 t2 => ⟨t1 (by simp), fun j hj hji hu => rgKeep hni hup t2 (fun _ _ _ _ _ h => h) (fun _ _ _ _ u _ h => ⟨u, h⟩) (fun _ _ _ _ _ _ _ h => h) hM.facts j hj hji hu⟩⟩
    | 2, ho =>
     injection ho with ho
     subst ho
     have e0 : a.eval (.tmp 17) = .int .i64 (N : Int) := hM.facts 1 (by decide) (ready_up hi (by kernel_rfl))
     exact wpM_makeSlice _ _ _ _ _ _ _ rfl e0 e0 (HMK.out W) ⟨_, rfl, (bone _ _).mono hbW.size, fun _ => ⟨Nat.le_refl _, by simp [blkOf]⟩, fun τ' t1 t2 => ⟨⟨_, t1 (by simp), (OwnF.made W _ N 0 (by unfold maxLen; omega)).mono hbW.size⟩, fun j hj hji hu => rgKeep hni hup t2 (fun _ _ _ _ _ h => h.now (bone _ _)) (fun _ _ _ _ u _ h => ⟨u, h.now (bone _ _)⟩) (fun _ _ _ _ _ _ _ h => h.now (bone _ _)) hM.facts j hj hji hu⟩⟩
    | 3, ho =>
     injection ho with ho
     subst ho
     have k1 : a.eval (.tmp 1) = .pointer (some ⟨w.heap.size, 0, none⟩) := hk.same (s := 1) (by kernel_rfl)
     exact wpM_field _ _ _ _ _ rfl k1 (by first | (simp [go_sem]; done) | (simp [go_sem]; rfl)) ⟨_, rfl, Below.refl _ _, fun h => absurd h (by decide), fun τ' t1 t2 => ⟨t1 (by simp), fun j hj hji hu => rgKeep hni hup t2 (fun _ _ _ _ _ h => h) (fun _ _ _ _ u _ h => ⟨u, h⟩) (fun _ _ _ _ _ _ _ h => h) hM.facts j hj hji hu⟩⟩
    | 4, ho =>
     injection ho with ho
     subst ho
     have e0 : a.eval (.tmp 19) = .pointer (some ⟨w.heap.size, 0, none⟩) := hM.facts 3 (by decide) (ready_up hi (by kernel_rfl))
     obtain ⟨q0, q1⟩ := (hB3.below hbW hB3.lt).c2
     exact wpM_load _ _ _ (.int .i64 (N : Int)) rfl e0 (by simp [go_sem, q0]) ⟨_, rfl, Below.refl _ _, fun h => absurd h (by decide), fun τ' t1 t2 => ⟨t1 (by simp), fun j hj hji hu => rgKeep hni hup t2 (fun _ _ _ _ _ h => h) (fun _ _ _ _ u _ h => ⟨u, h⟩) (fun _ _ _ _ _ _ _ h => h) hM.facts j hj hji hu⟩⟩
    | 5, ho =>
     injection ho with ho
     subst ho
     have e0 : a.eval (.tmp 20) = .int .i64 (N : Int) := hM.facts 4 (by decide) (ready_up hi (by kernel_rfl))
     exact wpM_makeSlice _ _ _ _ _ _ _ rfl e0 e0 (HMK.out W) ⟨_, rfl, (bone _ _).mono hbW.size, fun _ => ⟨Nat.le_refl _, by simp [blkOf]⟩, fun τ' t1 t2 => ⟨⟨_, t1 (by simp), (OwnF.made W _ N 0 (by unfold maxLen; omega)).mono hbW.size⟩, fun j hj hji hu => rgKeep hni hup t2 (fun _ _ _ _ _ h => h.now (bone _ _)) (fun _ _ _ _ u _ h => ⟨u, h.now (bone _ _)⟩) (fun _ _ _ _ _ _ _ h => h.now (bone _ _)) hM.facts j hj hji hu⟩⟩
    | 6, ho =>
     injection ho with ho
     subst ho
     have k1 : a.eval (.tmp 1) = .pointer (some ⟨w.heap.size, 0, none⟩) := hk.same (s := 1) (by kernel_rfl)
     exact wpM_field _ _ _ _ _ rfl k1 (by first | (simp [go_sem]; done) | (simp [go_sem]; rfl)) ⟨_, rfl, Below.refl _ _, fun h => absurd h (by decide), fun τ' t1 t2 => ⟨t1 (by simp), fun j hj hji hu => rgKeep hni hup t2 (fun _ _ _ _ _ h => h) (fun _ _ _ _ u _ h => ⟨u, h⟩) (fun _ _ _ _ _ _ _ h => h) hM.facts j hj hji hu⟩⟩
    | 7, ho =>
     injection ho with ho
     subst ho
     have e0 : a.eval (.tmp 22) = .pointer (some ⟨w.heap.size, 0, none⟩) := hM.facts 6 (by decide) (ready_up hi (by kernel_rfl))
     obtain ⟨q0, q1⟩ := (hB3.below hbW hB3.lt).c2
     exact wpM_load _ _ _ (.int .i64 (N : Int)) rfl e0 (by simp [go_sem, q0]) ⟨_, rfl, Below.refl _ _, fun h => absurd h (by decide), fun τ' t1 t2 => ⟨t1 (by simp), fun j hj hji hu => rgKeep hni hup t2 (fun _ _ _ _ _ h => h) (fun _ _ _ _ u _ h => ⟨u, h⟩) (fun _ _ _ _ _ _ _ h => h) hM.facts j hj hji hu⟩⟩
    | 8, ho =>
     injection ho with ho
     subst ho
     have e0 : a.eval (.tmp 23) = .int .i64 (N : Int) := hM.facts 7 (by decide) (ready_up hi (by kernel_rfl))
     exact wpM_makeSlice _ _ _ _ _ _ _ rfl e0 e0 (HMK.out W) ⟨_, rfl, (bone _ _).mono hbW.size, fun _ => ⟨Nat.le_refl _, by simp [blkOf]⟩, fun τ' t1 t2 => ⟨⟨_, t1 (by simp), (OwnF.made W _ N 0 (by unfold maxLen; omega)).mono hbW.size⟩, fun j hj hji hu => rgKeep hni hup t2 (fun _ _ _ _ _ h => h.now (bone _ _)) (fun _ _ _ _ u _ h => ⟨u, h.now (bone _ _)⟩) (fun _ _ _ _ _ _ _ h => h.now (bone _ _)) hM.facts j hj hji hu⟩⟩
    | 9, ho =>
     injection ho with ho
     subst ho
     exact wpM_alloc _ _ _ rfl (alSl W) ⟨_, rfl, (bone _ _).mono hbW.size, fun _ => ⟨Nat.le_refl _, by simp [blkOf]⟩, fun τ' t1 t2 => ⟨⟨_, t1 (by simp), _, Blk.new _ _ _⟩, fun j hj hji hu => rgKeep hni hup t2 (fun _ _ _ _ _ h => h.now (bone _ _)) (fun _ _ _ _ u _ h => ⟨u, h.now (bone _ _)⟩) (fun _ _ _ _ _ _ _ h => h.now (bone _ _)) hM.facts j hj hji hu⟩⟩
    | 10, ho =>
     injection ho with ho
     subst ho
     exact wpM_alloc _ _ _ rfl (alSl W) ⟨_, rfl, (bone _ _).mono hbW.size, fun _ => ⟨Nat.le_refl _, by simp [blkOf]⟩, fun τ' t1 t2 => ⟨⟨_, t1 (by simp), _, Blk.new _ _ _⟩, fun j hj hji hu => rgKeep hni hup t2 (fun _ _ _ _ _ h => h.now (bone _ _)) (fun _ _ _ _ u _ h => ⟨u, h.now (bone _ _)⟩) (fun _ _ _ _ _ _ _ h => h.now (bone _ _)) hM.facts j hj hji hu⟩⟩
    | 11, ho =>
     injection ho with ho
     subst ho
     exact wpM_alloc _ _ _ rfl (alSl W) ⟨_, rfl, (bone _ _).mono hbW.size, fun _ => ⟨Nat.le_refl _, by simp [blkOf]⟩, fun τ' t1 t2 => ⟨⟨_, t1 (by simp), _, Blk.new _ _ _⟩, fun j hj hji hu => rgKeep hni hup t2 (fun _ _ _ _ _ h => h.now (bone _ _)) (fun _ _ _ _ u _ h => ⟨u, h.now (bone _ _)⟩) (fun _ _ _ _ _ _ _ h => h.now (bone _ _)) hM.facts j hj hji hu⟩⟩
    | 12, ho =>
     injection ho with ho
     subst ho
     have u1 := ready_up hi (show Region.waitsFor .any _ 12 9 = true by kernel_rfl)
     have u2 := ready_up hi (show Region.waitsFor .any _ 12 2 = true by kernel_rfl)
     obtain ⟨p, e1, u, hp⟩ := hM.facts 9 (by decide) u1
     obtain ⟨g, e2, hg⟩ := hM.facts 2 (by decide) u2
     have k1 : a.eval (.tmp 5) = .pointer (some ⟨p, 0, none⟩) := e1
     have k2 : a.eval (.tmp 18) = .slice (some ⟨g, 0, none⟩) N N := e2
     have hlo := hM.lo 9 (by decide) rfl u1
     rw [e1] at hlo
     have c0 := hp.c1
     have f0 := hp.frozen 0
     have hap : ∀ j, (j = 2 ∨ j = 5 ∨ j = 8 ∨ j = 9 ∨ j = 10 ∨ j = 11) → j ≠ 9 → Up listed j → blkOf (vOf _ (Act.slot a) j) ≠ p := fun j hj hjn hu => by
       have := hM.apart j 9 (by rcases hj with rfl | rfl | rfl | rfl | rfl | rfl <;> decide) (by decide) (by rcases hj with rfl | rfl | rfl | rfl | rfl | rfl <;> rfl) rfl hu u1 hjn
       rwa [e1] at this
     refine wpM_store _ _ _ _ _ (W.setCell ⟨p, 0, none⟩ (.slice (some ⟨g, 0, none⟩) N N)) () rfl k1 k2 (by simp [go_sem, c0, f0]) ⟨_, rfl, (Below.refl _ _).setCell (p := ⟨p, 0, none⟩) hlo.1 _, fun h => absurd h (by decide), fun τ' t1 t2 => ⟨⟨p, g, (t2 9 (by decide) (by decide)).trans e1, (t2 2 (by decide) (by decide)).trans e2, hp.set_ 0 _⟩, fun j hj hji hu => rgKeep hni hup t2 ?_ ?_ ?_ hM.facts j hj hji hu⟩⟩
     · intro j hj hu g' e h
       have := hap j (by omega) (by omega) hu
       rw [e] at this
       exact OwnF.far h (p := ⟨p, 0, none⟩) (fun e => this e.symm) _
     · intro j hj hu p' u' e h
       by_cases hjn : j = 9
       · subst hjn
         rw [e1] at e
         injection e with e
         injection e with e
         injection e with e _ _
         subst e
         exact ⟨_, hp.set_ 0 _⟩
       · have := hap j (by omega) hjn hu
         rw [e] at this
         exact ⟨_, h.far (p := ⟨p, 0, none⟩) this _⟩
     · intro j hj hji hu p' u' e h
       have := hap (j - 3) (by omega) (by omega) (by rcases hj with rfl | rfl | rfl; exact (hup 0 (by decide) hu).1; exact (hup 1 (by decide) hu).1; exact (hup 2 (by decide) hu).1)
       rw [e] at this
       exact h.far (p := ⟨p, 0, none⟩) this _
    | 13, ho =>
     injection ho with ho
     subst ho
     have u1 := ready_up hi (show Region.waitsFor .any _ 13 10 = true by kernel_rfl)
     have u2 := ready_up hi (show Region.waitsFor .any _ 13 5 = true by kernel_rfl)
     obtain ⟨p, e1, u, hp⟩ := hM.facts 10 (by decide) u1
     obtain ⟨g, e2, hg⟩ := hM.facts 5 (by decide) u2
     have k1 : a.eval (.tmp 6) = .pointer (some ⟨p, 0, none⟩) := e1
     have k2 : a.eval (.tmp 21) = .slice (some ⟨g, 0, none⟩) N N := e2
     have hlo := hM.lo 10 (by decide) rfl u1
     rw [e1] at hlo
     have c0 := hp.c1
     have f0 := hp.frozen 0
     have hap : ∀ j, (j = 2 ∨ j = 5 ∨ j = 8 ∨ j = 9 ∨ j = 10 ∨ j = 11) → j ≠ 10 → Up listed j → blkOf (vOf _ (Act.slot a) j) ≠ p := fun j hj hjn hu => by
       have := hM.apart j 10 (by rcases hj with rfl | rfl | rfl | rfl | rfl | rfl <;> decide) (by decide) (by rcases hj with rfl | rfl | rfl | rfl | rfl | rfl <;> rfl) rfl hu u1 hjn
       rwa [e1] at this
     refine wpM_store _ _ _ _ _ (W.setCell ⟨p, 0, none⟩ (.slice (some ⟨g, 0, none⟩) N N)) () rfl k1 k2 (by simp [go_sem, c0, f0]) ⟨_, rfl, (Below.refl _ _).setCell (p := ⟨p, 0, none⟩) hlo.1 _, fun h => absurd h (by decide), fun τ' t1 t2 => ⟨⟨p, g, (t2 10 (by decide) (by decide)).trans e1, (t2 5 (by decide) (by decide)).trans e2, hp.set_ 0 _⟩, fun j hj hji hu => rgKeep hni hup t2 ?_ ?_ ?_ hM.facts j hj hji hu⟩⟩
     · intro j hj hu g' e h
       have := hap j (by omega) (by omega) hu
       rw [e] at this
       exact OwnF.far h (p := ⟨p, 0, none⟩) (fun e => this e.symm) _
     · intro j hj hu p' u' e h
       by_cases hjn : j = 10
       · subst hjn
         rw [e1] at e
         injection e with e
         injection e with e
         injection e with e _ _
         subst e
         exact ⟨_, hp.set_ 0 _⟩
       · have := hap j (by omega) hjn hu
         rw [e] at this
         exact ⟨_, h.far (p := ⟨p, 0, none⟩) this _⟩
     · intro j hj hji hu p' u' e h
       have := hap (j - 3) (by omega) (by omega) (by rcases hj with rfl | rfl | rfl; exact (hup 0 (by decide) hu).1; exact (hup 1 (by decide) hu).1; exact (hup 2 (by decide) hu).1)
       rw [e] at this
       exact h.far (p := ⟨p, 0, none⟩) this _
    | 14, ho =>
     injection ho with ho
     subst ho
     have u1 := ready_up hi (show Region.waitsFor .any _ 14 11 = true by kernel_rfl)
     have u2 := ready_up hi (show Region.waitsFor .any _ 14 8 = true by kernel_rfl)
     obtain ⟨p, e1, u, hp⟩ := hM.facts 11 (by decide) u1
     obtain ⟨g, e2, hg⟩ := hM.facts 8 (by decide) u2
     have k1 : a.eval (.tmp 7) = .pointer (some ⟨p, 0, none⟩) := e1
     have k2 : a.eval (.tmp 24) = .slice (some ⟨g, 0, none⟩) N N := e2
     have hlo := hM.lo 11 (by decide) rfl u1
     rw [e1] at hlo
     have c0 := hp.c1
     have f0 := hp.frozen 0
     have hap : ∀ j, (j = 2 ∨ j = 5 ∨ j = 8 ∨ j = 9 ∨ j = 10 ∨ j = 11) → j ≠ 11 → Up listed j → blkOf (vOf _ (Act.slot a) j) ≠ p := fun j hj hjn hu => by
       have := hM.apart j 11 (by rcases hj with rfl | rfl | rfl | rfl | rfl | rfl <;> decide) (by decide) (by rcases hj with rfl | rfl | rfl | rfl | rfl | rfl <;> rfl) rfl hu u1 hjn
       rwa [e1] at this
     refine wpM_store _ _ _ _ _ (W.setCell ⟨p, 0, none⟩ (.slice (some ⟨g, 0, none⟩) N N)) () rfl k1 k2 (by simp [go_sem, c0, f0]) ⟨_, rfl, (Below.refl _ _).setCell (p := ⟨p, 0, none⟩) hlo.1 _, fun h => absurd h (by decide), fun τ' t1 t2 => ⟨⟨p, g, (t2 11 (by decide) (by decide)).trans e1, (t2 8 (by decide) (by decide)).trans e2, hp.set_ 0 _⟩, fun j hj hji hu => rgKeep hni hup t2 ?_ ?_ ?_ hM.facts j hj hji hu⟩⟩
     · intro j hj hu g' e h
       have := hap j (by omega) (by omega) hu
       rw [e] at this
       exact OwnF.far h (p := ⟨p, 0, none⟩) (fun e => this e.symm) _
     · intro j hj hu p' u' e h
       by_cases hjn : j = 11
       · subst hjn
         rw [e1] at e
         injection e with e
         injection e with e
         injection e with e _ _
         subst e
         exact ⟨_, hp.set_ 0 _⟩
       · have := hap j (by omega) hjn hu
         rw [e] at this
         exact ⟨_, h.far (p := ⟨p, 0, none⟩) this _⟩
     · intro j hj hji hu p' u' e h
       have := hap (j - 3) (by omega) (by omega) (by rcases hj with rfl | rfl | rfl; exact (hup 0 (by decide) hu).1; exact (hup 1 (by decide) hu).1; exact (hup 2 (by decide) hu).1)
       rw [e] at this
       exact h.far (p := ⟨p, 0, none⟩) this _
    | n + 15, ho => simp at ho
   case hend =>
    intro listed a W hup hk hM
    have hbW : Below w3.heap.size w3 W := (Below.refl _ _).drew.trans hM.below
    obtain ⟨p9, g2, e9, e2, hp9⟩ := hM.facts 12 (by decide) (hup 12 (by decide))
    obtain ⟨p10, g5, e10, e5, hp10⟩ := hM.facts 13 (by decide) (hup 13 (by decide))
    obtain ⟨p11, g8, e11, e8, hp11⟩ := hM.facts 14 (by decide) (hup 14 (by decide))
    have o2 : OwnZ W w3.heap.size 3 g2 N := by
      obtain ⟨g', e', h⟩ := hM.facts 2 (by decide) (hup 2 (by decide))
      obtain rfl : g' = g2 := by have := e'.symm.trans e2; injection this with this; injection this with this; injection this
      exact h
    have o5 : OwnZ W w3.heap.size 3 g5 N := by
      obtain ⟨g', e', h⟩ := hM.facts 5 (by decide) (hup 5 (by decide))
      obtain rfl : g' = g5 := by have := e'.symm.trans e5; injection this with this; injection this with this; injection this
      exact h
    have o8 : OwnZ W w3.heap.size 3 g8 N := by
      obtain ⟨g', e', h⟩ := hM.facts 8 (by decide) (hup 8 (by decide))
      obtain rfl : g' = g8 := by have := e'.symm.trans e8; injection this with this; injection this with this; injection this
      exact h
    have L := fun j (hj : j < 15) (hm : mkB j = true) => hM.lo j hj hm (hup j hj)
    have AP := fun i j (hi : i < 15) (hj : j < 15) (h1 : mkB i = true) (h2 : mkB j = true) => hM.apart i j hi hj h1 h2 (hup i hi) (hup j hj)
    have l9 := L 9 (by decide) rfl
    have l10 := L 10 (by decide) rfl
    have l11 := L 11 (by decide) rfl
    have l2 := L 2 (by decide) rfl
    have l5 := L 5 (by decide) rfl
    have l8 := L 8 (by decide) rfl
    rw [e9] at l9; rw [e10] at l10; rw [e11] at l11; rw [e2] at l2; rw [e5] at l5; rw [e8] at l8
    have d1 := AP 9 10 (by decide) (by decide) rfl rfl (by decide)
    have d2 := AP 9 11 (by decide) (by decide) rfl rfl (by decide)
    have d3 := AP 9 2 (by decide) (by decide) rfl rfl (by decide)
    have d4 := AP 9 5 (by decide) (by decide) rfl rfl (by decide)
    have d5 := AP 9 8 (by decide) (by decide) rfl rfl (by decide)
    have d6 := AP 10 11 (by decide) (by decide) rfl rfl (by decide)
    have d7 := AP 10 2 (by decide) (by decide) rfl rfl (by decide)
    have d8 := AP 10 5 (by decide) (by decide) rfl rfl (by decide)
    have d9 := AP 10 8 (by decide) (by decide) rfl rfl (by decide)
    have d10 := AP 11 2 (by decide) (by decide) rfl rfl (by decide)
    have d11 := AP 11 5 (by decide) (by decide) rfl rfl (by decide)
    have d12 := AP 11 8 (by decide) (by decide) rfl rfl (by decide)
    have d13 := AP 2 5 (by decide) (by decide) rfl rfl (by decide)
    have d14 := AP 2 8 (by decide) (by decide) rfl rfl (by decide)
    have d15 := AP 5 8 (by decide) (by decide) rfl rfl (by decide)
    rw [e9, e10] at d1; rw [e9, e11] at d2; rw [e9, e2] at d3; rw [e9, e5] at d4; rw [e9, e8] at d5
    rw [e10, e11] at d6; rw [e10, e2] at d7; rw [e10, e5] at d8; rw [e10, e8] at d9
    rw [e11, e2] at d10; rw [e11, e5] at d11; rw [e11, e8] at d12; rw [e2, e5] at d13; rw [e2, e8] at d14; rw [e5, e8] at d15
    have x5 : Act.slot a 5 = .pointer (some ⟨p9, 0, none⟩) := e9
    have x6 : Act.slot a 6 = .pointer (some ⟨p10, 0, none⟩) := e10
    have x7 : Act.slot a 7 = .pointer (some ⟨p11, 0, none⟩) := e11
    refine hK _ _ ?_
    rw [hk.form (by kernel_rfl)]
    simp only [putsAll, Option.getD_some, Act.put, List.setIfInBounds_toArray, List.set_cons_zero, List.set_cons_succ, x5, x6, x7]
    go_meet
    simp only [blkOf] at l9 l10 l11 l2 l5 l8 d1 d2 d3 d4 d5 d6 d7 d8 d9 d10 d11 d12 d13 d14 d15
    refine ⟨p9, p10, p11, g2, g5, g8, rfl, rfl, rfl, hp9, hp10, hp11, o2, o5, o8, ?_, ?_, hbW⟩
    · simp only [List.nodup_cons, List.mem_cons, List.not_mem_nil, not_or, not_false_eq_true, List.nodup_nil, and_true]
      exact ⟨⟨d1, d2, d3, d4, d5⟩, ⟨d6, d7, d8, d9⟩, ⟨d10, d11, d12⟩, ⟨d13, d14⟩, d15⟩
    · intro x hx
      simp only [List.mem_cons, List.not_mem_nil, or_false] at hx
      rcases hx with rfl | rfl | rfl | rfl | rfl | rfl <;> assumption
  case rest =>
    obtain ⟨p9, p10, p11, b2, b5, b8, rfl, rfl, rfl, hp9, hp10, hp11, o2, o5, o8, hnd, hlo, hbc⟩ := hcut
    have hbw := hb3.trans (hbc.mono hb3.size)
    have hB4 := hB3.now hbc
    have hnx4 := hnx3.now hbc
    have hl9 := hlo p9 (by simp)
    have hl10 := hlo p10 (by simp)
    have hl11 := hlo p11 (by simp)
    have hl2 := hlo b2 (by simp)
    have hl5 := hlo b5 (by simp)
    have hl8 := hlo b8 (by simp)
    have HND := Lib.hid hnd
    have hne : p9 ≠ b8 ∧ p10 ≠ b8 ∧ p11 ≠ b8 ∧ b2 ≠ b8 ∧ b5 ≠ b8 := by
      simp only [List.nodup_cons, List.mem_cons, List.not_mem_nil, not_or, not_false_eq_true, List.nodup_nil, and_true, or_false] at hnd
      obtain ⟨⟨_, _, _, _, h1⟩, ⟨_, _, _, h2⟩, ⟨_, _, h3⟩, ⟨_, h4⟩, h5⟩ := hnd
      exact ⟨h1, h2, h3, h4, h5⟩
    obtain ⟨n1, n2, n3, n4, n5⟩ := hne
    have hcl0 : OwnF (Value.int .i64) wc w3.heap.size 3 b8 N ((List.range N).map fun i => if i < 0 then (-1 : Int) else 0) := by
      obtain ⟨h1, h2⟩ := o8
      refine ⟨?_, h2⟩
      have e1 : (List.replicate N 0).map natV = ((List.range N).map fun i => if i < 0 then (-1 : Int) else 0).map (Value.int .i64) := by
        apply List.ext_getElem?
        intro i
        by_cases hi : i < N
        · simp [natV, hi]
        · simp [natV, hi]
      rw [List.length_map, List.length_range, ← e1]
      rwa [List.length_replicate] at h1
    have hsw := hbw2.size
    clear hb3 hlo hnd hB3 hnx3 HMK o8
    have a1 := hp11.c1
    go_wp2_with fail
    go_loopw [27] (fun iv wr => ∃ k : Nat, k ≤ N ∧ iv = .int .i64 k ∧ OwnF (Value.int .i64) wr w3.heap.size 3 b8 N ((List.range N).map fun i => if i < k then (-1 : Int) else 0) ∧ wc.grownBy wr (some b8)) (fun iv _ => N - (intOf iv).toNat)
    case atStart => exact ⟨0, Nat.zero_le _, rfl, hcl0, grown_of_below (Below.refl _ _) _⟩
    case round =>
      obtain ⟨k, hk, rfl, hcl, hgr⟩ := hrel
      have hp11r := hp11.grown hgr (fun e => by injection e with e; exact n3 e)
      clear a1
      have a1 := hp11r.c1
      by_cases hlt : k < N
      · have i1 : (0 : Int) ≤ (k : Int) := by omega
        have i2 : (k : Int) < (N : Int) := by omega
        have c0 := hcl.cell (k := k) (x := 0) (by simp [hlt])
        have f0 := hcl.frozen k
        go_wp2_with fail
        go_roundw
        case rel =>
          refine ⟨k + 1, by omega, by go_num, ?_, ?_⟩
          · have h := hcl.set_ k (-1)
            have e1 : ((List.range N).map fun i => if i < k then (-1 : Int) else 0).set k (-1) = (List.range N).map fun i => if i < k + 1 then (-1 : Int) else 0 := by
              apply List.ext_getElem?
              intro i
              rw [List.getElem?_set]
              by_cases hi : k = i
              · subst hi; simp [hlt]
              · rw [if_neg hi]
                simp only [List.getElem?_map]
                by_cases h2 : i < N
                · rw [List.getElem?_range h2]
                  simp only [Option.map_some]
                  congr 1
                  by_cases h3 : i < k
                  · rw [if_pos h3, if_pos (by omega)]
                  · rw [if_neg h3, if_neg (by omega)]
                · rw [List.getElem?_eq_none (by simp; omega)]; rfl
            rw [e1] at h
            exact h
          · exact grownT hgr (grownS _ _ _ _)
        case measure => simp [intOf]; omega
      · have hkN : N = k := by omega
        subst hkN
        clear hlt a1 hcl0
        have hp9r := hp9.grown hgr (fun e => by injection e with e; exact n1 e)
        have hp10r := hp10.grown hgr (fun e => by injection e with e; exact n2 e)
        have hp11r := hp11.grown hgr (fun e => by injection e with e; exact n3 e)
        have hnx := hnx4.grown hgr (fun e => by injection e with e; omega)
        have hBr := hB4.grown hgr (fun e => by injection e with e; omega)
        have ho2 : OwnF natV wr w3.heap.size 3 b2 N (List.replicate N 0) := OwnF.grown o2 hgr (fun e => by injection e with e; exact n4 e)
        have ho5 : OwnF natV wr w3.heap.size 3 b5 N (List.replicate N 0) := OwnF.grown o5 hgr (fun e => by injection e with e; exact n5 e)
        have hcl : OwnF (Value.int .i64) wr w3.heap.size 3 b8 N (List.replicate N (-1)) := by
          have e1 : ((List.range N).map fun i => if i < N then (-1 : Int) else 0) = List.replicate N (-1) := by
            apply List.ext_getElem?
            intro i
            by_cases hi : i < N
            · simp [hi]
            · simp [hi]
          rw [e1] at hcl
          exact hcl
        have hgsz := hgr.size
        have hbr2 : Below w2.heap.size w2 wr := hbw.trans (below_of_grown hgr (Nat.le_trans (by omega) hbw.size) (fun g e => by injection e with e; omega))
        clear hgr hp9 hp10 hp11 hnx4 hB4 o2 o5 hbw hbc
        go_upto_region 11 with fail
        have hb4 : Below wr.heap.size wr ((((wr.alloc (.cells #[.slice none 0 0] 28)).alloc (.cells #[.int .i64 0] 3)).alloc (.cells #[.int .i64 0] 3)).alloc (.cells #[.nilFunc] 85)) :=
          bbox (bbox (bbox (bone _ _) _) _) _
        have hst := (((Blk.new wr 28 #[.slice none 0 0]).alloc (.cells #[.int .i64 0] 3)).alloc (.cells #[.int .i64 0] 3)).alloc (.cells #[.nilFunc] 85)
        have hct := ((Blk.new_at (t := 3) (cs := #[.int .i64 0]) (w := wr.alloc (.cells #[.slice none 0 0] 28)) (s := wr.heap.size + 1) (World.size_alloc _ _)).alloc (.cells #[.int .i64 0] 3)).alloc (.cells #[.nilFunc] 85)
        have hcc := (Blk.new_at (t := 3) (cs := #[.int .i64 0]) (w := (wr.alloc (.cells #[.slice none 0 0] 28)).alloc (.cells #[.int .i64 0] 3)) (s := wr.heap.size + 1 + 1) (by rw [World.size_alloc, World.size_alloc])).alloc (.cells #[.nilFunc] 85)
        have hvi := Blk.new_at (t := 85) (cs := #[.nilFunc]) (w := ((wr.alloc (.cells #[.slice none 0 0] 28)).alloc (.cells #[.int .i64 0] 3)).alloc (.cells #[.int .i64 0] 3)) (s := wr.heap.size + 1 + 1 + 1) (by rw [World.size_alloc, World.size_alloc, World.size_alloc])
        generalize hw4 : ((((wr.alloc (.cells #[.slice none 0 0] 28)).alloc (.cells #[.int .i64 0] 3)).alloc (.cells #[.int .i64 0] 3)).alloc (.cells #[.nilFunc] 85)) = w4 at *
        clear hw4
        have f1 := hvi.frozen 0
        have c1 := hvi.c1
        go_upto_region 12 with fail
        have hM := mem_start (n := w2.heap.size) (a := p9) (b := p10) (c := p11) (d := b2) (e := b5) (f := b8) (z := wr.heap.size) (nv := .slice (some ⟨Gn, 0, none⟩) N N) (base := w3.heap.size) (N := N)
          (List.nodup_cons.2 ⟨fun h => by
            simp only [List.mem_cons, List.not_mem_nil, or_false] at h
            omega, HND.out⟩) (by omega) (hnx.now hb4) (hp9r.now hb4) (hp10r.now hb4) (hp11r.now hb4) hst hct hcc hvi (ho2.now hb4) (ho5.now hb4) (hcl.now hb4)
        have hM5 : MemT (w4.setCell ⟨wr.heap.size + 1 + 1 + 1, 0, none⟩ (.func (.func 45) #[] #[.pointer (some ⟨wr.heap.size + 1, 0, none⟩), .pointer (some ⟨p10, 0, none⟩), .pointer (some ⟨p9, 0, none⟩), .pointer (some ⟨wr.heap.size, 0, none⟩), .pointer (some ⟨w2.heap.size, 0, none⟩), .pointer (some ⟨wr.heap.size + 1 + 1 + 1, 0, none⟩), .pointer (some ⟨p11, 0, none⟩), .pointer (some ⟨wr.heap.size + 1 + 1, 0, none⟩)])) (sbOf w2.heap.size p9 p10 p11 b2 b5 b8 wr.heap.size) w3.heap.size N (.slice (some ⟨Gn, 0, none⟩) N N) (.slice none 0 0) (TS.init N) := hM
        have hb5 : Below w2.heap.size w2 (w4.setCell ⟨wr.heap.size + 1 + 1 + 1, 0, none⟩ (.func (.func 45) #[] #[.pointer (some ⟨wr.heap.size + 1, 0, none⟩), .pointer (some ⟨p10, 0, none⟩), .pointer (some ⟨p9, 0, none⟩), .pointer (some ⟨wr.heap.size, 0, none⟩), .pointer (some ⟨w2.heap.size, 0, none⟩), .pointer (some ⟨wr.heap.size + 1 + 1 + 1, 0, none⟩), .pointer (some ⟨p11, 0, none⟩), .pointer (some ⟨wr.heap.size + 1 + 1, 0, none⟩)])) :=
          (hbr2.trans (hb4.mono hbr2.size)).setCell (p := ⟨wr.heap.size + 1 + 1 + 1, 0, none⟩) (by show w2.heap.size ≤ wr.heap.size + 1 + 1 + 1; omega) _
        have hB5 : Blk (w4.setCell ⟨wr.heap.size + 1 + 1 + 1, 0, none⟩ (.func (.func 45) #[] #[.pointer (some ⟨wr.heap.size + 1, 0, none⟩), .pointer (some ⟨p10, 0, none⟩), .pointer (some ⟨p9, 0, none⟩), .pointer (some ⟨wr.heap.size, 0, none⟩), .pointer (some ⟨w2.heap.size, 0, none⟩), .pointer (some ⟨wr.heap.size + 1 + 1 + 1, 0, none⟩), .pointer (some ⟨p11, 0, none⟩), .pointer (some ⟨wr.heap.size + 1 + 1, 0, none⟩)])) w.heap.size 35 #[.int .i64 (N : Int), .slice A es.length c] :=
          (hBr.now hb4).far (p := ⟨wr.heap.size + 1 + 1 + 1, 0, none⟩) (show w.heap.size ≠ wr.heap.size + 1 + 1 + 1 by omega) _
        generalize hw5 : (w4.setCell ⟨wr.heap.size + 1 + 1 + 1, 0, none⟩ (.func (.func 45) #[] #[.pointer (some ⟨wr.heap.size + 1, 0, none⟩), .pointer (some ⟨p10, 0, none⟩), .pointer (some ⟨p9, 0, none⟩), .pointer (some ⟨wr.heap.size, 0, none⟩), .pointer (some ⟨w2.heap.size, 0, none⟩), .pointer (some ⟨wr.heap.size + 1 + 1 + 1, 0, none⟩), .pointer (some ⟨p11, 0, none⟩), .pointer (some ⟨wr.heap.size + 1 + 1, 0, none⟩)])) = w5 at hM5 hb5 hB5 ⊢
        have hfrom := sbOf_from (n := w2.heap.size) (a := p9) (b := p10) (c := p11) (d := b2) (e := b5) (f := b8) (z := wr.heap.size) (base := w2.heap.size) (by omega)
        clear hw5 hM hnx hp9r hp10r hp11r hst hct hcc hvi ho2 ho5 hcl hb4 hbr2 f1 c1 hBr
        have hM5 : MemT w5 (sbOf w2.heap.size p9 p10 p11 b2 b5 b8 wr.heap.size) w2.heap.size N (.slice (some ⟨Gn, 0, none⟩) N N) (.slice none 0 0) (TS.init N) :=
          { hM5 with gl := hM5.gl.mono (Nat.le_of_lt hlt3), gi := hM5.gi.mono (Nat.le_of_lt hlt3), gc := hM5.gc.mono (Nat.le_of_lt hlt3), row := ⟨rfl, .inl ⟨rfl, rfl⟩⟩ }
        have HNX := Lib.hid (show ∀ x, x < N → ∀ y ∈ nextE es x, y < N from fun x hx y hy => (HIN.out _ (nextE_mem.1 hy)).2)
        obtain ⟨q0, q1⟩ := hB5.c2
        clear hB5
        clear hgsz
        generalize wr.heap.size = z at *
        go_wp2_with fail
        go_loopw [37] (fun iv wz => ∃ (k : Nat) (sv : Value), k ≤ N ∧ iv = .int .i64 k ∧ MemT wz (sbOf w2.heap.size p9 p10 p11 b2 b5 b8 z) w2.heap.size N (.slice (some ⟨Gn, 0, none⟩) N N) sv (visitTo (nextE es) N k) ∧ Below w2.heap.size w2 wz) (fun iv _ => N - (intOf iv).toNat)
        case atStart => exact ⟨0, _, Nat.zero_le _, rfl, hM5, hb5⟩
        case round =>
          obtain ⟨k, sv, hk, rfl, hMk, hbk⟩ := hrel
          clear hM5 hb5 q0 q1
          have b1 : wr.cell? ⟨p10, 0, none⟩ = some (.slice (some ⟨b5, 0, none⟩) N N) := hMk.ix.c1
          by_cases hlt : k < N
          · obtain ⟨hI, hstk, hvis⟩ := visitTo_post HNX.out k (by omega)
            have hC := visitTo_cnt HNX.out k (by omega)
            have HI := Lib.hid hI
            have HC := Lib.hid hC
            have b2x : wr.cell? ⟨b5, k, none⟩ = some (.int .i64 ((visitTo (nextE es) N k).ix k : Int)) := hMk.ixAt hI.li hlt
            have HS : Hid (visitTo (nextE es) N (k + 1) = if (visitTo (nextE es) N k).ix k = 0 then visit (nextE es) N k (visitTo (nextE es) N k) else visitTo (nextE es) N k) := rfl
            have HU := Lib.hid (unvis_all (N := N) (visitTo (nextE es) N k))
            clear hI hC hstk hvis
            generalize hsk : visitTo (nextE es) N k = sk at *
            have i1 : (0 : Int) ≤ (k : Int) := by omega
            have i2 : (k : Int) < (N : Int) := by omega
            by_cases hix : sk.ix k = 0
            · have d1 : ((sk.ix k : Int) == 0) = true := by simp [hix]
              have HE1 : Hid (visitTo (nextE es) N (k + 1) = visit (nextE es) N k sk) := by show _ = _; rw [HS.out, if_pos hix]
              have b3 : wr.cell? ⟨z + 1 + 1 + 1, 0, none⟩ = some (visitV (sbOf w2.heap.size p9 p10 p11 b2 b5 b8 z)) := hMk.vi.c1
              unfold visitV at b3
              rw [capV_of] at b3
              have eg : ∀ args w, (callFunc 45 args).run Tryd.prog w = .ok (.enter 45 args) w := enters_of Tryd.func45 (by kernel_rfl) rfl
              have hrk := Sl.below hrows RRow.kept hbk (Nat.le_refl _)
              have HCALL := Lib.hid (visit_any (next := nextE es) (sbOf w2.heap.size p9 p10 p11 b2 b5 b8 z) w2.heap.size _ (rowsN es N) HNX.out hN hfrom (rowsN_len es N) (fun v hv => rowsN_get hv) Gn rfl N k sk sv _ hMk hrk HI.out HC.out hlt hix HU.out)
              rw [capV_of] at HCALL
              clear hix
              go_wp2_with (go_at_fn 45; refine HCALL.out.mono ?_; rintro e w6 ⟨rfl, ⟨sv6, hM6⟩, hb6⟩; generalize hW : @wpList = WL)
              subst hW
              have hbk6 := hbk.trans hb6
              rw [← HE1.out] at hM6
              clear b1 b2x b3 d1 hMk hrk hb6
              go_wp2_with fail
              go_roundw
              case rel => exact ⟨k + 1, _, by omega, by go_num, hM6, hbk6⟩
              case measure => simp [intOf]; omega
            · have d1 : ((sk.ix k : Int) == 0) = false := by simp [hix]
              have HE1 : Hid (visitTo (nextE es) N (k + 1) = sk) := by show _ = _; rw [HS.out, if_neg hix]
              clear hix
              rw [← HE1.out] at hMk
              go_wp2_with fail
              go_roundw
              case rel => exact ⟨k + 1, _, by omega, by go_num, hMk, hbk⟩
              case measure => simp [intOf]; omega
          · have hkN : N = k := by omega
            subst hkN
            have hD := visit_done HNX.out
            have b2x : wr.cell? ⟨p11, 0, none⟩ = some (.slice (some ⟨b8, 0, none⟩) N N) := hMk.cl.c1
            have b3 : wr.cell? ⟨z + 1 + 1, 0, none⟩ = some (.int .i64 ((visitTo (nextE es) N N).cc : Int)) := hMk.cc.c1
            go_upto_region 18 with fail
            go_region
            go_wp2_with fail
            go_ret2
            refine ⟨_, rfl, ?_, (hbw2.trans (hbk.mono hsw)).drew⟩
            have hsl := OwnF.slI hMk.drew.gc (fun y hy => by
              obtain ⟨i, hi, rfl⟩ := List.getElem_of_mem hy
              have hiN : i < N := by rw [← hD.inv.lc]; exact hi
              have h1 := hD.all i hiN
              have h2 := hD.inv.cb i hiN
              have h3 := (visitTo_cnt HNX.out N (Nat.le_refl _)).ct
              have h4 := (visitTo_cnt HNX.out N (Nat.le_refl _)).cc
              have h5 : (visitTo (nextE es) N N).cl i = (visitTo (nextE es) N N).cls[i] := by unfold TS.cl; rw [List.getD_eq_getElem?_getD, List.getElem?_eq_getElem hi]; rfl
              unfold Fit
              omega)
            rw [hD.inv.lc] at hsl
            exact hsl
end Go.Proofs.YtlkkfkkhllijbaaDoor
