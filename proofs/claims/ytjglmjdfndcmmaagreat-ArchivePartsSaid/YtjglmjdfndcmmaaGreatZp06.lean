/- Texts of this seat, merged. -/
import Derived.RangeFuncCalls
import Derived.Lib.Strings
import Derived.Deep.CutRange
import Derived.Lib.Bytes
import Derived.Test.YtjglmjdfndcmmaaGreatZp01
import Derived.Test.YtjglmjdfndcmmaaGreatZp02
import Derived.Test.YtjglmjdfndcmmaaGreatZp03
import Derived.Test.YtjglmjdfndcmmaaGreatZp04
import Derived.Test.YtjglmjdfndcmmaaGreatZp05
set_option linter.all false
set_option linter.all false
namespace Go.Proofs.YtjglmjdfndcmmaaGreat
open Go.RowKit Go.Shelf
attribute [local go_sem] Oper.semAt_some
theorem ownC_nil (w : World) (base : Nat) : OwnC w base (.slice none 0 0) [] := World.ownsRow_nil _ _ _ _
theorem OwnC.isSlice {w : World} {base : Nat} {v : Value} {l : List UInt8} (h : OwnC w base v l) : ∃ A c, v = .slice A l.length c := by
  rcases h.2 with ⟨rfl, h0⟩ | ⟨g, cap, cur, rfl, _⟩
  · exact ⟨none, 0, by rw [h0]⟩
  · exact ⟨some ⟨g, 0, none⟩, cap, rfl⟩
theorem blk_own {A B : World} {g t : Nat} {cs : Array Value} {row : Option Nat} (h : Blk A g t cs) (hg : A.grownBy B row) (hr : ∀ r, row = some r → ∃ o : Obj, A.heap[r]? = some o ∧ o.isCells = false) : Blk B g t cs :=
  h.grown hg fun e => by
    obtain ⟨o, ho, hc⟩ := hr g e.symm
    have := h.symm.trans ho
    injection this with this
    rw [← this] at hc; cases hc
theorem ownC_own {A B : World} {base : Nat} {v : Value} {l : List UInt8} {row : Option Nat} (h : OwnC A base v l) (hg : A.grownBy B row) (hr : ∀ r, row = some r → ∃ o : Obj, A.heap[r]? = some o ∧ o.isCells = false) : OwnC B base v l :=
  own_same h fun g hg' => by
    obtain ⟨cs, fz, hc⟩ := Lib.ownsRow_kind h g hg'
    refine hg.block g (Array.getElem?_eq_some_iff.1 hc).1 fun e => ?_
    obtain ⟨o, ho, hn⟩ := hr g e.symm
    have := hc.symm.trans ho
    injection this with this
    rw [← this] at hn; cases hn
theorem keeps_of_X {B : Nat} {W W' : World} (h : KeepX W W') : KeepsFrom B W W' :=
  ⟨h.size, fun k o _ hk ho => (h.same k (Array.getElem?_eq_some_iff.1 hk).1 (fun cs fz e => by rw [hk] at e; injection e with e; rw [e] at ho; cases ho)).trans hk⟩
theorem part_sl {w : World} {b o n c : Nat} {es : List Ev} (h : SlEv (Lt w.heap.size) w (.slice (some ⟨b, o, none⟩) n c) es) {x : Nat} (hx : x < nParts es) (hn : n = es.length) :
    SlEv (Lt w.heap.size) w (chunkV b o n x) (part es x) := by
  unfold nParts at hx
  subst hn
  have h2 := Sl.sub h (100 * x) (min 100 (es.length - 100 * x)) (min 100 (es.length - 100 * x)) (by omega) (Nat.le_refl _) (by unfold maxLen; omega)
  have h3 : (es.drop (100 * x)).take (min 100 (es.length - 100 * x)) = part es x := by
    unfold part
    rw [← List.length_drop, ← List.take_eq_take_min]
  rw [h3] at h2
  exact h2
theorem OwnC.set_box {w : World} {base g t : Nat} {v u : Value} {cs : Array Value} {l : List UInt8} (h : OwnC w base v l) (hG : Blk w g t cs) (ht : t ≠ 5) (i : Nat) : OwnC (w.setCell ⟨g, i, none⟩ u) base v l :=
  own_same h fun k hk => by
    obtain ⟨c, fz, hc⟩ := Lib.ownsRow_kind h k hk
    refine Below.heap_setCell w ⟨g, i, none⟩ u k fun e => ?_
    subst e
    have := hG.symm.trans hc
    injection this with this
    injection this with _ e2 _
    exact ht e2
theorem news_at (W : World) (e : TypeId) (cs : List Value) : ∀ j u, cs[j]? = some u → (W.alloc (.cells cs.toArray e)).cell? ((⟨W.heap.size, 0, none⟩ : Addr).add j) = some u := by
  intro j u hu
  have : ((⟨W.heap.size, 0, none⟩ : Addr).add j) = ⟨W.heap.size, j, none⟩ := by unfold Addr.add; by_cases hj : j = 0 <;> simp [hj]
  rw [this, (Blk.new W e cs.toArray).cell j]
  simpa using hu
theorem le4_cells {s : Nat} (h : s < 4294967296) : [Value.int .u8 ((s : Int) % 256), .int .u8 ((s : Int) / 256 % 256), .int .u8 ((s : Int) / 65536 % 256), .int .u8 ((s : Int) / 16777216)] = flat cellC (le4 s) := by
  rw [flatC]
  unfold le4
  simp only [List.map_cons, List.map_nil, UInt8.toNat_ofNat']
  have e1 : ((s % 256 % 2 ^ 8 : Nat) : Int) = (s : Int) % 256 := by omega
  have e2 : ((s / 256 % 256 % 2 ^ 8 : Nat) : Int) = (s : Int) / 256 % 256 := by omega
  have e3 : ((s / 65536 % 256 % 2 ^ 8 : Nat) : Int) = (s : Int) / 65536 % 256 := by omega
  have e4 : ((s / 16777216 % 256 % 2 ^ 8 : Nat) : Int) = (s : Int) / 16777216 := by omega
  rw [e1, e2, e3, e4]
theorem parts_fin (es : List Ev) : (List.finRange (nParts es)).flatMap (fun k => arBlock (part es k.1)) = arParts es (nParts es) := by
  unfold arParts
  have h : (List.finRange (nParts es)).map (·.1) = List.range (nParts es) := by
    apply List.ext_getElem
    · simp
    · intro i h1 h2; simp
  rw [← h, List.flatMap_map]
set_option maxRecDepth 100000 in
set_option maxHeartbeats 2000000 in
theorem pack_any (es : List Ev) (u : Value) (w : World) (h : IsLog (Lt w.heap.size) w u es) (hv : logB es = true) :
    Calls Tryz.prog 39 #[u] w fun e w' => ∃ v', e = .returned v' ∧ OwnC w' w.heap.size v' (arPack es) ∧ Below w.heap.size w w' := by
  obtain ⟨_, rfl, h⟩ := h
  obtain ⟨A, c, rfl, h1, h2, hs⟩ := h.open_
  obtain ⟨hlen, hok⟩ := log_parts hv
  have hmono := log_time hv
  have hb1 := bone w (.cells #[.slice A es.length c] 25)
  have hB1 := Blk.new w 25 #[.slice A es.length c]
  have hc1 := hB1.c1
  have H1 := Lib.hid (arNumber_any es.length w.heap.size _ [] (w.alloc (.cells #[.slice A es.length c] 25)) (by omega) (ownC_nil _ _) (by simp) (by have := arNum_len (n := es.length) (by omega); simp; omega))
  have hf1 : Fence.wide.fn 55 := trivial
  have hf2 : Fence.wide.fn 56 := trivial
  have hf3 : Fence.wide.fn 57 := trivial
  have hf4 : Fence.wide.fn 40 := trivial
  refine (callsIn_wide (n := 8)).1 ?_
  refine callsIn_of_wp_marks Tryz.func39 rfl trivial ?_ rfl
  simp only [Tryz.ntmps39, List.size_toArray, List.length_cons, List.length_nil, Nat.reduceAdd, Nat.reduceSub, Array.replicate_succ, Array.replicate_zero, List.push_toArray, List.append_toArray, List.nil_append, List.cons_append]
  gi_wp2_with (first | (gi_at_call 56; refine (callsIn_wide.2 (chunk_any A es.length c _)).mono ?_; rintro e w2 ⟨rfl, rfl⟩) | gi_at_call 55; refine (callsIn_wide.2 H1.out).mono ?_; rintro e w1 ⟨v1, rfl, hA1⟩; obtain ⟨Ao, co, rfl⟩ := hA1.own.isSlice; have hB1' := hB1.keepX (hA1.keepX (ownC_nil _ _)) (by decide); have hc1' : ∀ o, (w1.alloc o).cell? ⟨w.heap.size, 0, none⟩ = some (.slice A es.length c) := fun o => (hB1'.alloc o).c1)
  have hbL : Hid (Below w.heap.size w w1) := Lib.hid (Adds.below (Adds.pre (bone w _) hA1) (ownC_nil _ _) (Nat.le_refl _))
  have hgsz : Hid (w.heap.size ≤ w1.heap.size) := Lib.hid hbL.out.size
  obtain ⟨g, hg⟩ : ∃ g, w1.heap.size = g := ⟨_, rfl⟩
  have hBg := Blk.new w1 22 #[.slice Ao (arNum es.length).length co]
  have hBs := Blk.new (w1.alloc (.cells #[.slice Ao (arNum es.length).length co] 22)) 23 #[.slice A es.length c]
  have hBn := Blk.new ((w1.alloc (.cells #[.slice Ao (arNum es.length).length co] 22)).alloc (.cells #[.slice A es.length c] 23)) 3 #[.int .i64 100]
  rw [World.size_alloc, hg] at hBs
  rw [World.size_alloc, World.size_alloc, hg] at hBn
  rw [hg] at hBg
  have hBg' := (hBg.alloc (.cells #[.slice A es.length c] 23)).alloc (.cells #[.int .i64 100] 3)
  have hBs' := hBs.alloc (.cells #[.int .i64 100] 3)
  have hO1 := hA1.own
  have hwl0 := bbox (bbox (bone w1 (.cells #[.slice Ao (arNum es.length).length co] 22)) (.cells #[.slice A es.length c] 23)) (.cells #[.int .i64 100] 3)
  rw [hg]
  obtain ⟨wl, hwl⟩ : ∃ wl, ((w1.alloc (.cells #[.slice Ao (arNum es.length).length co] 22)).alloc (.cells #[.slice A es.length c] 23)).alloc (.cells #[.int .i64 100] 3) = wl := ⟨_, rfl⟩
  rw [hwl] at hBg' hBs' hBn hwl0 ⊢
  have hwls : wl.heap.size = g + 1 + 1 + 1 := by rw [← hwl]; simp [hg]
  obtain ⟨b, o, hA⟩ : ∃ b o, 0 < es.length → A = some ⟨b, o, none⟩ := by
    rcases Nat.eq_zero_or_pos es.length with h0 | h0
    · exact ⟨0, 0, fun h => absurd h (by omega)⟩
    · obtain ⟨b, o, _, _, hA, _⟩ := SlEv.at_ hs h0
      exact ⟨b, o, fun _ => hA⟩
  refine wpIn_rangeFunc_ownG rfl (by omega) (gf := 78) (lb := #[.pointer (some ⟨g + 1, 0, none⟩), .pointer (some ⟨g + 1 + 1, 0, none⟩)]) rfl trivial (enters_of Tryz.func78 (by kernel_rfl) rfl)
    (chunk_stops A 7 (by omega) (g + 1) (g + 1 + 1) b o es.length c h2 (by omega) h1 (nParts es) rfl hA wl (by omega) (by omega) hBs'.c1 hBn.c1) Kq.trans (Kq.put (w := wl) (by omega) (by omega)) (Below.refl _ _) (fun _ => rfl)
    (fun pre W => ((∃ v, Blk W g 22 #[v] ∧ OwnC W w.heap.size v (arNum es.length ++ pre.flatMap fun k => arBlock (part es k.1))) ∧ Blk W (g + 1) 23 #[.slice A es.length c] ∧ Blk W (g + 1 + 1) 3 #[.int .i64 100]) ∧ Below w.heap.size w W)
    (fun _ _ _ => False)
    (OwnFrom.and (Own.from (fun s A B row hs hg hr => by
      obtain ⟨⟨v, e1, e2⟩, e3, e4⟩ := hs
      exact ⟨⟨v, blk_own e1 hg hr, ownC_own e2 hg hr⟩, blk_own e3 hg hr, blk_own e4 hg hr⟩) _) (ownFrom_below (Nat.le_refl _) (by have := hgsz.out; omega)))
    (fun _ _ _ _ _ hs _ _ => hs)
    ⟨⟨⟨_, hBg', by simpa using OwnC.now hO1 hwl0⟩, hBs', hBn⟩, hbL.out.trans (hwl0.mono hbL.out.size)⟩
    (fun x => { tmps := #[.agg #[.slice A es.length c], .pointer (some ⟨w.heap.size, 0, none⟩), .slice none 0 0, .pointer (some ⟨g, 0, none⟩), chunkV b o es.length x.1, undef, .pointer (some ⟨w.heap.size, 0, none⟩), .slice A es.length c, .int .i64 es.length, .slice Ao (arNum es.length).length co, .pointer (some ⟨w.heap.size, 0, none⟩), .slice A es.length c, .func (.func 78) #[] #[.pointer (some ⟨g + 1, 0, none⟩), .pointer (some ⟨g + 1 + 1, 0, none⟩)], chunkV b o es.length x.1, undef, undef, undef, undef, undef, undef, undef, undef, undef, undef, undef, undef, undef, undef, undef, undef, undef, undef, undef], defers := [] }) ?assign ?body ?done ?stop
  case assign =>
    intro l x W K hK
    gi_wp2
    exact hK
  case body =>
    rintro l pre x W ⟨⟨⟨v, hG, hO⟩, hS, hN⟩, hB⟩ hlt
    obtain ⟨Lp, hLp⟩ : ∃ Lp, arNum es.length ++ (pre.flatMap fun k => arBlock (part es k.1)) = Lp := ⟨_, rfl⟩
    have HLp := Lib.hid hLp
    rw [hLp] at hO
    obtain ⟨Av, cv, rfl⟩ := hO.isSlice
    have hx := x.2
    have hnp : nParts es ≤ 20 := by unfold nParts; omega
    have hne : 0 < es.length := by unfold nParts at hx; omega
    have hsA := hs
    rw [hA hne] at hsA
    have hpart := part_sl hsA hx rfl
    have hroom : Lp.length + (arBlock (part es x.1)).length ≤ 9000000 := by
      have a1 := arNum_len (n := es.length) (by omega)
      have a2 := flat_le (fun k : Fin (nParts es) => arBlock (part es k.1)) 240000 pre (fun k _ => arBlock_len (fun e he => hok e (part_mem he)) (part_len es k.1))
      have a3 := arBlock_len (l := part es x.1) (fun e he => hok e (part_mem he)) (part_len es x.1)
      rw [← hLp, List.length_append]
      omega
    clear hLp
    have HC := Lib.hid (block_any (part es x.1) (chunkV b o es.length x.1) w.heap.size _ _ W (SlEv.below hpart hB (Nat.le_refl _)) (fun e he => hok e (part_mem he)) (part_len es x.1) (hmono.sublist ((List.take_sublist _ _).trans (List.drop_sublist _ _))) hO hB.size hroom)
    have hc := hG.c1
    gi_wp2_with (gi_at_call 57; go_loud (refine (CallsIn.inRound l (callsIn_wide.2 HC.out)).mono ?_); rintro e W1 ⟨v', rfl, hA2⟩; obtain ⟨Aw, cw, rfl⟩ := hA2.own.isSlice; have HX := Lib.hid (hA2.keepX hO); have hG1 := hG.keepX HX.out (by decide); have hc1 := hG1.c1; have hf1 := hG1.frozen 0)
    have hO2 := hA2.own
    rw [List.length_append] at hO2
    have hS1 := (hS.keepX HX.out (by decide)).far (p := ⟨g, 0, none⟩) (show g + 1 ≠ g by omega) (.slice Aw (Lp.length + (arBlock (part es x.1)).length) cw)
    have hN1 := (hN.keepX HX.out (by decide)).far (p := ⟨g, 0, none⟩) (show g + 1 + 1 ≠ g by omega) (.slice Aw (Lp.length + (arBlock (part es x.1)).length) cw)
    have hwg := hgsz.out
    refine ⟨(keeps_of_X HX.out).trans ((KeepsOthers.setCell _ _ _).from _), ⟨hS1.trans hS.symm, hN1.trans hN.symm⟩, ⟨⟨_, hG1.set_ 0 _, ?_⟩, hS1, hN1⟩, (hB.trans (hA2.below hO hB.size)).setCell (p := ⟨g, 0, none⟩) (by rw [hg] at hwg; exact hwg) _⟩
    rw [List.flatMap_append, ← List.append_assoc, HLp.out, List.flatMap_cons, List.flatMap_nil, List.append_nil]
    exact hO2.set_box hG1 (by decide) 0
  case done =>
    rintro D ys W hD rfl ⟨⟨⟨v, hG, hO⟩, hS, hN⟩, hB⟩ hK
    rw [parts_fin] at hO
    have hbody : arNum es.length ++ arParts es (nParts es) = arBody es := rfl
    rw [hbody] at hO
    obtain ⟨Av, cv, rfl⟩ := hO.isSlice
    have hc := hG.c1
    have HSM := Lib.hid (sum_any _ _ W hO.slC)
    have hbl := arBody_len hv
    have hsl := sumOf_lt (arBody es)
    have HPK : Hid (arPack es = arBody es ++ le4 (sumOf (arBody es))) := Lib.hid rfl
    generalize arBody es = L at *
    generalize sumOf L = s at *
    obtain ⟨i0, hi, hz0, hz1, hz2⟩ := info_parts byteInfo'
    have HO := Lib.hid hO
    have HCE := Lib.hid (le4_cells hsl)
    have hbs := hB.size
    gi_wp2_with (first
      | (gi_at_call 40; refine (callsIn_wide.2 HSM.out).mono ?_; rintro e W1 ⟨rfl, rfl⟩)
      | (gi_at_builtin; refine wpListIn_append_own _ rfl (.tmp 19) (.tmp 31) 22 rfl w.heap.size 5 i0 (.int .u8 0) 1 1 Tryz.underlying22 hi hz0 hz1 hz2 rfl (by decide) (.slice Av L.length cv) L.length (flat cellC L) rfl (World.ownsRow.alloc HO.out _) ⟨W.heap.size, 0, none⟩ 4 4 [.int .u8 ((s : Int) % 256), .int .u8 ((s : Int) / 256 % 256), .int .u8 ((s : Int) / 65536 % 256), .int .u8 ((s : Int) / 16777216)] rfl rfl (news_at W 5 _) (by simp [Value.oneCell']) (by unfold maxLen; omega) (by omega) (by simp; omega) ?_; intro v' w5 hown' hgr _))
    have hgW : W.grownBy w5 (Value.slice Av L.length cv).ownBlock := ⟨hgr.os, hgr.tape, hgr.output, Nat.le_trans (by simp) hgr.size, fun k hk hne => (hgr.block k (by simp; omega) hne).trans (Below.heap_alloc _ _ _ hk)⟩
    have hK5 : w5.heap[D]? = some (.deferred (some [])) := (hgW.block D (Array.getElem?_eq_some_iff.1 hK).1 (fun e => by
      obtain ⟨c0, fz, hc0⟩ := Lib.ownsRow_kind HO.out D e.symm
      rw [hK] at hc0; cases hc0)).trans hK
    have hOf : OwnC w5 w.heap.size v' (arPack es) := by
      rw [HPK.out]
      unfold OwnC OwnW
      rw [flat_append, ← HCE.out, List.length_append]
      exact hown'
    have hB5 : Below w.heap.size w w5 := hB.trans (below_of_grown hgW hbs fun k hk => (World.ownsRow.lt HO.out k hk).1)
    have hDw : w.heap.size ≤ D := by have := hgsz.out; omega
    refine ⟨by simp, .inl ⟨_, _, rfl, run_takeDeferred hK5, ?_⟩⟩
    exact ⟨_, results_tmp rfl _ _ _, _, rfl, ownC_own hOf (grownBy_putObj' _ _ _) (fun r e => by cases e; exact ⟨_, hK5, rfl⟩), hB5.trans (belowK_b (w := w) (Nat.le_refl _) w5 D _ _ hDw hK5 rfl rfl)⟩
  case stop =>
    rintro D c pre W _ _ h _
    exact h.elim
end Go.Proofs.YtjglmjdfndcmmaaGreat

set_option linter.all false
namespace Go.Proofs.YtjglmjdfndcmmaaGreat
open Go.RowKit
def plainS (s : ByteArray) : Bool := s.data.toList.all plainC
theorem any_not_allC (l : List UInt8) : (l.any fun x => !plainC x) = !l.all plainC := by
  induction l with
  | nil => rfl
  | cons a m ih => simp [List.any_cons, List.all_cons, ih]
theorem textB_long {s : ByteArray} (h : 200 < s.size) : textB s = false := by
  unfold textB
  have h' : ¬ s.size ≤ 200 := by omega
  simp [h']
theorem textB_short {s : ByteArray} (h : s.size ≤ 200) : textB s = plainS s := by unfold textB plainS; simp [h]
theorem rowB_new (w : World) (s : ByteArray) (cap t : Nat) (fr : Nat × Nat) : RowB (w.alloc (.cells (bytesRow s cap) t fr)).drew w.heap.size s.data.toList := by
  intro k c hk
  rw [Array.getElem?_toList] at hk
  have hkl : k < s.data.size := by
    rcases Nat.lt_or_ge k s.data.size with h | h
    · exact h
    · rw [Array.getElem?_eq_none h] at hk; cases hk
  have h1 : (w.alloc (.cells (bytesRow s cap) t fr)).drew.heap[w.heap.size]? = some (.cells (bytesRow s cap) t fr) := by
    show (w.heap.push _)[w.heap.size]? = _
    simp
  simp only [World.cell?, h1]
  simp only [Option.isSome_none, Bool.false_eq_true, if_false]
  unfold bytesRow
  rw [Array.getElem?_append_left (by simpa using hkl), Array.getElem?_map, hk]
  rfl
set_option maxHeartbeats 400000 in
theorem text_any (s : ByteArray) (w : World) (hs : s.size ≤ maxLen) : Calls Tryz.prog 90 #[.string s] w fun e w' => e = .returned (.bool (textB s)) ∧ Below w.heap.size w w' := by
  unfold maxLen at hs
  by_cases h1 : 200 < s.size
  · have HE := Lib.hid (textB_long h1)
    go_enter Tryz.func90, Tryz.ntmps90
    go_wp2
    go_ret
    exact ⟨ret_bool HE.out.symm, Below.refl _ _⟩
  · have h2 : s.size ≤ 200 := by omega
    have HE : Hid (textB s = !(s.data.toList.any fun x => !plainC x)) := by show textB s = _; rw [textB_short h2, any_not_allC]; unfold plainS; simp
    have hconv := fun w => run_bytes_of_string (P := Tryz.prog) w 9 22 5 s Tryz.underlying9 Tryz.underlying22 Tryz.underlying5
    go_enter Tryz.func90, Tryz.ntmps90
    go_wp2_with fail
    refine (containsTextB w.heap.size _ s.data.toList _ (by rw [Array.length_toList]; show s.size ≤ _; omega) (rowB_new w s _ _ _)).mono ?_
    rintro e w1 ⟨rfl, rfl⟩
    generalize (s.data.toList.any fun x => !plainC x) = q at *
    go_wp2_with fail
    go_ret
    exact ⟨ret_bool HE.out.symm, (bone w _).drew⟩
theorem byte_plain {s : ByteArray} {k : Nat} (h : k < s.size) : plainC (s.data.toList[k]'(by simpa using h)) = true ↔ 32 ≤ (s[k].toNat : Int) ∧ (s[k].toNat : Int) ≤ 126 := plainC_iff _
theorem all_plain {s : ByteArray} (h : ∀ j (hj : j < s.size), plainC (s.data.toList[j]'(by simpa using hj)) = true) : plainS s = true := by
  unfold plainS
  rw [List.all_eq_true]
  intro c hc
  obtain ⟨j, hj, rfl⟩ := List.mem_iff_getElem.1 hc
  exact h j (by simpa using hj)
theorem not_plain {s : ByteArray} {j : Nat} (hj : j < s.size) (h : ¬ plainC (s.data.toList[j]'(by simpa using hj)) = true) : plainS s = false := by
  unfold plainS
  rw [Bool.eq_false_iff]
  intro h'
  exact h (List.all_eq_true.1 h' _ (List.getElem_mem _))
set_option maxHeartbeats 400000 in
theorem printable_ref (s : ByteArray) (w : World) (hs : s.size ≤ maxLen) : Calls Tryz.prog 109 #[.string s] w fun e w' => e = .returned (.bool (plainS s)) ∧ w = w' := by
  unfold maxLen at hs
  go_enter Tryz.func109, Tryz.ntmps109
  go_wp2_with fail
  go_loop [3] (fun i => ∃ k : Nat, k ≤ s.size ∧ i = .int .i64 k ∧ ∀ j (hj : j < s.size), j < k → plainC (s.data.toList[j]'(by simpa using hj)) = true) (fun i => s.size - (intOf i).toNat)
  case atStart => exact ⟨0, Nat.zero_le _, rfl, fun j _ hj => absurd hj (by omega)⟩
  case round =>
    obtain ⟨k, hk, rfl, hp⟩ := hrel
    have HP := Lib.hid hp
    clear hp
    by_cases hlt : k < s.size
    · have HY := Lib.hid (byte_plain hlt)
      by_cases h1 : (s[k].toNat : Int) < 32
      · have HE := Lib.hid (not_plain hlt (fun h => by have := HY.out.1 h; omega))
        go_wp2_with fail
        go_ret
        exact ⟨ret_bool HE.out.symm, rfl⟩
      by_cases h2 : 126 < (s[k].toNat : Int)
      · have HE := Lib.hid (not_plain hlt (fun h => by have := HY.out.1 h; omega))
        go_wp2_with fail
        go_ret
        exact ⟨ret_bool HE.out.symm, rfl⟩
      have HQ := Lib.hid (HY.out.2 ⟨by omega, by omega⟩)
      go_wp2_with fail
      go_round
      case rel => exact ⟨k + 1, by omega, by go_num, fun j hj hjk => by
        by_cases e : j = k
        · subst e; exact HQ.out
        · exact HP.out j hj (by omega)⟩
      case measure => simp [intOf]; omega
    · have HE := Lib.hid (all_plain (s := s) (fun j hj => HP.out j hj (by omega)))
      go_wp2_with fail
      go_ret
      exact ⟨ret_bool HE.out.symm, rfl⟩
set_option maxHeartbeats 400000 in
theorem text_ref (s : ByteArray) (w : World) (hs : s.size ≤ maxLen) : Calls Tryz.prog 93 #[.string s] w fun e w' => e = .returned (.bool (textB s)) ∧ w = w' := by
  have HC := Lib.hid (fun w => printable_ref s w hs)
  unfold maxLen at hs
  by_cases h1 : 200 < s.size
  · have HE := Lib.hid (textB_long h1)
    go_enter Tryz.func93, Tryz.ntmps93
    go_wp2
    go_ret
    exact ⟨ret_bool HE.out.symm, rfl⟩
  · have h2 : s.size ≤ 200 := by omega
    have HE := Lib.hid (textB_short h2)
    generalize plainS s = q at *
    go_enter Tryz.func93, Tryz.ntmps93
    go_wp2_with (go_at_call 109; refine (HC.out _).mono ?_; rintro e w' ⟨rfl, rfl⟩)
    go_ret
    exact ⟨ret_bool HE.out.symm, rfl⟩
set_option maxHeartbeats 1000000 in
theorem validV_any (v : Val) (w : World) (h : FitV v) : Calls Tryz.prog 67 #[valV v] w fun e w' => e = .returned (.bool (validV v)) ∧ Below w.heap.size w w' := by
  obtain ⟨k, n, s⟩ := v
  obtain ⟨h1, h2, h3⟩ := h
  have HT := Lib.hid (fun w => text_any s w h3)
  have HN := Lib.hid (fun w => number_any n w)
  unfold validV valV noS
  dsimp only at h1 h2 h3 ⊢
  clear h1 h2 h3
  have hb := bone w (.cells #[.int .i64 k, .int .i64 n, .string s] 62)
  by_cases k1 : k = 1
  · subst k1
    by_cases hS : s.toList = []
    · have hS2 : s.toList.isEmpty = true := by simpa using hS
      by_cases n0 : n = 0
      · subst n0
        go_enter Tryz.func67, Tryz.ntmps67
        go_wp2_with fail
        go_ret
        exact ⟨ret_bool (by first | (simp; done) | simp [hS]), hb⟩
      · by_cases n1 : n = 1
        · subst n1
          go_enter Tryz.func67, Tryz.ntmps67
          go_wp2_with fail
          go_ret
          exact ⟨ret_bool (by first | (simp; done) | simp [hS]), hb⟩
        · go_enter Tryz.func67, Tryz.ntmps67
          go_wp2_with fail
          go_ret
          exact ⟨ret_bool (by first | (simp; done) | simp [n0, n1]), hb⟩
    · have hS2 : s.toList.isEmpty = false := by simpa using hS
      by_cases n0 : n = 0
      · subst n0
        go_enter Tryz.func67, Tryz.ntmps67
        go_wp2_with fail
        go_ret
        exact ⟨ret_bool (by first | (simp; done) | simp [hS]), hb⟩
      · by_cases n1 : n = 1
        · subst n1
          go_enter Tryz.func67, Tryz.ntmps67
          go_wp2_with fail
          go_ret
          exact ⟨ret_bool (by first | (simp; done) | simp [hS]), hb⟩
        · go_enter Tryz.func67, Tryz.ntmps67
          go_wp2_with fail
          go_ret
          exact ⟨ret_bool (by first | (simp; done) | simp [n0, n1]), hb⟩
  by_cases k2 : k = 2
  · subst k2
    generalize numB n = q at *
    by_cases hS : s.toList = []
    · have hS2 : s.toList.isEmpty = true := by simpa using hS
      cases q
      all_goals
        go_enter Tryz.func67, Tryz.ntmps67
        go_wp2_with (go_at_call 89; refine (HN.out _).mono ?_; rintro e w' ⟨rfl, rfl⟩)
        go_ret
        exact ⟨ret_bool (by first | (simp; done) | simp [hS]), hb⟩
    · have hS2 : s.toList.isEmpty = false := by simpa using hS
      cases q
      all_goals
        go_enter Tryz.func67, Tryz.ntmps67
        go_wp2_with (go_at_call 89; refine (HN.out _).mono ?_; rintro e w' ⟨rfl, rfl⟩)
        go_ret
        exact ⟨ret_bool (by first | (simp; done) | simp [hS]), hb⟩
  by_cases k3 : k = 3
  · subst k3
    by_cases n0 : n = 0
    · subst n0
      generalize textB s = q at *
      go_enter Tryz.func67, Tryz.ntmps67
      go_wp2_with (go_at_call 90; refine (HT.out _).mono ?_; rintro e w' ⟨rfl, hb1⟩)
      go_ret
      exact ⟨ret_bool (by simp), bthen hb hb1⟩
    · go_enter Tryz.func67, Tryz.ntmps67
      go_wp2_with fail
      go_ret
      exact ⟨ret_bool (by first | (simp; done) | simp [n0]), hb⟩
  · go_enter Tryz.func67, Tryz.ntmps67
    go_wp2_with fail
    go_ret
    exact ⟨ret_bool (by first | (simp; done) | simp [k1, k2, k3]), hb⟩
set_option maxHeartbeats 1000000 in
theorem validV_ref (v : Val) (w : World) (h : FitV v) : Calls Tryz.prog 69 #[valV v] w fun e w' => e = .returned (.bool (validV v)) ∧ Below w.heap.size w w' := by
  obtain ⟨k, n, s⟩ := v
  obtain ⟨h1, h2, h3⟩ := h
  have HT := Lib.hid (fun w => text_ref s w h3)
  have HN := Lib.hid (fun w => number_ref n w)
  unfold validV valV noS
  dsimp only at h1 h2 h3 ⊢
  clear h1 h2 h3
  have hb := bone w (.cells #[.int .i64 k, .int .i64 n, .string s] 62)
  by_cases k1 : k = 1
  · subst k1
    by_cases hS : s.toList = []
    · have hS2 : s.toList.isEmpty = true := by simpa using hS
      by_cases n0 : n = 0
      · subst n0
        go_enter Tryz.func69, Tryz.ntmps69
        go_wp2_with fail
        go_ret
        exact ⟨ret_bool (by first | (simp; done) | simp [hS]), hb⟩
      · by_cases n1 : n = 1
        · subst n1
          go_enter Tryz.func69, Tryz.ntmps69
          go_wp2_with fail
          go_ret
          exact ⟨ret_bool (by first | (simp; done) | simp [hS]), hb⟩
        · go_enter Tryz.func69, Tryz.ntmps69
          go_wp2_with fail
          go_ret
          exact ⟨ret_bool (by first | (simp; done) | simp [n0, n1]), hb⟩
    · have hS2 : s.toList.isEmpty = false := by simpa using hS
      by_cases n0 : n = 0
      · subst n0
        go_enter Tryz.func69, Tryz.ntmps69
        go_wp2_with fail
        go_ret
        exact ⟨ret_bool (by first | (simp; done) | simp [hS]), hb⟩
      · by_cases n1 : n = 1
        · subst n1
          go_enter Tryz.func69, Tryz.ntmps69
          go_wp2_with fail
          go_ret
          exact ⟨ret_bool (by first | (simp; done) | simp [hS]), hb⟩
        · go_enter Tryz.func69, Tryz.ntmps69
          go_wp2_with fail
          go_ret
          exact ⟨ret_bool (by first | (simp; done) | simp [n0, n1]), hb⟩
  by_cases k2 : k = 2
  · subst k2
    generalize numB n = q at *
    by_cases hS : s.toList = []
    · have hS2 : s.toList.isEmpty = true := by simpa using hS
      cases q
      all_goals
        go_enter Tryz.func69, Tryz.ntmps69
        go_wp2_with (go_at_call 92; refine (HN.out _).mono ?_; rintro e w' ⟨rfl, rfl⟩)
        go_ret
        exact ⟨ret_bool (by first | (simp; done) | simp [hS]), hb⟩
    · have hS2 : s.toList.isEmpty = false := by simpa using hS
      cases q
      all_goals
        go_enter Tryz.func69, Tryz.ntmps69
        go_wp2_with (go_at_call 92; refine (HN.out _).mono ?_; rintro e w' ⟨rfl, rfl⟩)
        go_ret
        exact ⟨ret_bool (by first | (simp; done) | simp [hS]), hb⟩
  by_cases k3 : k = 3
  · subst k3
    by_cases n0 : n = 0
    · subst n0
      generalize textB s = q at *
      go_enter Tryz.func69, Tryz.ntmps69
      go_wp2_with (go_at_call 93; refine (HT.out _).mono ?_; rintro e w' ⟨rfl, rfl⟩)
      go_ret
      exact ⟨ret_bool (by simp), hb⟩
    · go_enter Tryz.func69, Tryz.ntmps69
      go_wp2_with fail
      go_ret
      exact ⟨ret_bool (by first | (simp; done) | simp [n0]), hb⟩
  · go_enter Tryz.func69, Tryz.ntmps69
    go_wp2_with fail
    go_ret
    exact ⟨ret_bool (by first | (simp; done) | simp [k1, k2, k3]), hb⟩
end Go.Proofs.YtjglmjdfndcmmaaGreat

set_option linter.all false
namespace Go.Proofs.YtjglmjdfndcmmaaGreat
open Go.RowKit
theorem less_eqB : ∀ (x y : List UInt8), Op.bytesLess x y = decide (x < y)
  | [], [] => by simp [Op.bytesLess]
  | _ :: _, [] => by simp [Op.bytesLess]
  | [], _ :: _ => by simp [Op.bytesLess]
  | a :: x, b :: y => by
    rw [Op.bytesLess, less_eqB x y]
    simp only [List.cons_lt_cons_iff]
    by_cases h1 : a < b <;> by_cases h2 : a = b <;> by_cases h3 : x < y <;> simp [h1, h2, h3]
theorem less_at (x y : ByteArray) : Op.bytesLess x.toList y.toList = decide (x.data.toList < y.data.toList) := by
  rw [less_eqB, Lib.toList_data, Lib.toList_data]
end Go.Proofs.YtjglmjdfndcmmaaGreat

set_option linter.all false
namespace Go.Proofs.YtjglmjdfndcmmaaGreat
open Go.RowKit
theorem evB_eq (e : Ev) : evB e = (((isNameB e.cas && isNameB e.act && (noS e.res || isNameB e.res)) && (decide (1 ≤ e.life ∧ e.life ≤ 6) && decide (0 ≤ e.time ∧ e.time ≤ 1099511627776) && decide (e.data.length ≤ 8))) && fldsB e.data) := by
  unfold evB; simp only [Bool.and_assoc]
theorem fldAt_zero {l : List Fld} {f : Fld} (h : l[0]? = some f) : fldAt l 0 = (isNameB f.nm && validV f.v) := by unfold fldAt fldB; rw [h]; simp
theorem fldAt_succ {l : List Fld} {k : Nat} {f g : Fld} (h : l[k + 1]? = some f) (hg : l[k]? = some g) : fldAt l (k + 1) = ((isNameB f.nm && validV f.v) && decide (g.nm.data.toList < f.nm.data.toList)) := by
  unfold fldAt fldB; rw [h]; simp [hg]
theorem fldAt_bad {l : List Fld} {k : Nat} {f : Fld} (h : l[k]? = some f) (hb : (isNameB f.nm && validV f.v) = false) : fldAt l k = false := by
  unfold fldAt fldB; rw [h]; simp only [hb, Bool.false_and]
theorem noS_no {s : ByteArray} (h : noS s = false) : (s.toList == []) = false := by
  unfold noS at h
  cases hh : s.toList with
  | nil => rw [hh] at h; simp at h
  | cons a b => rfl
theorem noS_yes {s : ByteArray} (h : noS s = true) : (s.toList == []) = true := by
  unfold noS at h
  cases hh : s.toList with
  | nil => rfl
  | cons a b => rw [hh] at h; simp at h
set_option maxHeartbeats 4000000 in
set_option maxRecDepth 100000 in
theorem eventValid_any (e : Ev) (dv : Value) (w : World) (hf : FitEv e) (hd : SlFl (Lt w.heap.size) w dv e.data) :
    Calls Tryz.prog 45 #[evV e dv] w fun x w' => x = .returned (.bool (evB e)) ∧ Below w.heap.size w w' := by
  obtain ⟨A, c, rfl, h1, h2, hs⟩ := hd.open_
  have HS := Lib.hid hs
  have HE := Lib.hid (evB_eq e)
  have H1 := Lib.hid (fun W => isName_any e.cas W hf.cas)
  have H2 := Lib.hid (fun W => isName_any e.act W hf.act)
  have H3 := Lib.hid (fun W => isName_any e.res W hf.res)
  have hb1 := bone w (.cells #[.string e.cas, .string e.act, .string e.res, .int .i64 e.life, .int .i64 e.time, .slice A e.data.length c] 57)
  have hN1 := Blk.new w 57 #[.string e.cas, .string e.act, .string e.res, .int .i64 e.life, .int .i64 e.time, .slice A e.data.length c]
  obtain ⟨q0, q1, q2, q3, q4, q5⟩ := hN1.c6
  unfold evV
  clear hd hs hf
  have HR1 : Hid (noS e.res = false → (e.res.toList == []) = false) := noS_no
  have HR2 : Hid (noS e.res = true → (e.res.toList == []) = true) := noS_yes
  generalize isNameB e.cas = n1 at *
  generalize isNameB e.act = n2 at *
  generalize isNameB e.res = n3 at *
  generalize noS e.res = nr at *
  go_enter Tryz.func45, Tryz.ntmps45
  go_upto_region 1 with fail
  go_cut [25] from 5 to 25 (fun b W => b = .bool (!(n1 && n2 && (nr || n3))) ∧ w.alloc (.cells #[.string e.cas, .string e.act, .string e.res, .int .i64 e.life, .int .i64 e.time, .slice A e.data.length c] 57) = W)
  case first =>
    clear HE
    cases n1 <;> cases n2 <;> cases nr <;> cases n3
    all_goals
      first | have hr := HR1.out rfl | have hr := HR2.out rfl
      go_wp2_with (first
        | (go_at_call 66; (with_reducible refine (H1.out _).mono ?_); rintro x w' ⟨rfl, rfl⟩)
        | (go_at_call 66; (with_reducible refine (H2.out _).mono ?_); rintro x w' ⟨rfl, rfl⟩)
        | (go_at_call 66; (with_reducible refine (H3.out _).mono ?_); rintro x w' ⟨rfl, rfl⟩))
      go_meet
      exact ⟨rfl, rfl⟩
  obtain ⟨rfl, rfl⟩ := hcut
  clear H1 H2 H3 HR1 HR2
  generalize hq0 : (n1 && n2 && (nr || n3)) = q0 at *
  clear hq0
  cases q0
  · go_wp2_with fail
    go_ret
    exact ⟨ret_bool (by rw [HE.out]; simp), hb1⟩
  go_upto_region 3 with fail
  go_cut [49] from 26 to 49 (fun b W => b = .bool (!(decide (1 ≤ e.life ∧ e.life ≤ 6) && decide (0 ≤ e.time ∧ e.time ≤ 1099511627776) && decide (e.data.length ≤ 8))) ∧ w.alloc (.cells #[.string e.cas, .string e.act, .string e.res, .int .i64 e.life, .int .i64 e.time, .slice A e.data.length c] 57) = W)
  case first =>
    clear HE
    by_cases g1 : e.life < 1
    · have hd : decide (1 ≤ e.life ∧ e.life ≤ 6) = false := by simp; omega
      have HD := Lib.hid hd
      clear hd
      go_wp2_with fail
      go_meet
      exact ⟨by rw [HD.out]; simp, rfl⟩
    by_cases g2 : 6 < e.life
    · have hd : decide (1 ≤ e.life ∧ e.life ≤ 6) = false := by simp; omega
      have HD := Lib.hid hd
      clear hd
      go_wp2_with fail
      go_meet
      exact ⟨by rw [HD.out]; simp, rfl⟩
    by_cases g3 : e.time < 0
    · have hd : decide (0 ≤ e.time ∧ e.time ≤ 1099511627776) = false := by simp; omega
      have HD := Lib.hid hd
      clear hd
      go_wp2_with fail
      go_meet
      exact ⟨by rw [HD.out]; simp, rfl⟩
    by_cases g4 : 1099511627776 < e.time
    · have hd : decide (0 ≤ e.time ∧ e.time ≤ 1099511627776) = false := by simp; omega
      have HD := Lib.hid hd
      clear hd
      go_wp2_with fail
      go_meet
      exact ⟨by rw [HD.out]; simp, rfl⟩
    by_cases g5 : 8 < e.data.length
    · have hd : decide (e.data.length ≤ 8) = false := by simp; omega
      have z5 : (8 : Int) < (e.data.length : Int) := by omega
      have HD := Lib.hid hd
      clear hd
      go_wp2_with fail
      go_meet
      exact ⟨by rw [HD.out]; simp, rfl⟩
    have z5 : ¬ (8 : Int) < (e.data.length : Int) := by omega
    have hd : decide (1 ≤ e.life ∧ e.life ≤ 6) = true := by simp; omega
    have hd2 : decide (0 ≤ e.time ∧ e.time ≤ 1099511627776) = true := by simp; omega
    have hd3 : decide (e.data.length ≤ 8) = true := by simp; omega
    have HD := Lib.hid hd
    have HD2 := Lib.hid hd2
    have HD3 := Lib.hid hd3
    clear hd hd2 hd3
    go_wp2_with fail
    go_meet
    exact ⟨by rw [HD.out, HD2.out, HD3.out]; rfl, rfl⟩
  obtain ⟨rfl, rfl⟩ := hcut
  generalize hq1 : (decide (1 ≤ e.life ∧ e.life ≤ 6) && decide (0 ≤ e.time ∧ e.time ≤ 1099511627776) && decide (e.data.length ≤ 8)) = q1 at *
  clear hq1
  cases q1
  · go_wp2_with fail
    go_ret
    exact ⟨ret_bool (by rw [HE.out]; simp), hb1⟩
  have HX : Hid (evB e = fldsB e.data) := by exact HE.out
  obtain ⟨w1, hw1⟩ : ∃ w1, w.alloc (.cells #[.string e.cas, .string e.act, .string e.res, .int .i64 e.life, .int .i64 e.time, .slice A e.data.length c] 57) = w1 := ⟨_, rfl⟩
  rw [hw1] at hb1 hN1 q5 ⊢
  have hlw : w.heap.size < w1.heap.size := by rw [← hw1]; simp
  have HS1 : Hid (SlFl (Lt w1.heap.size) w1 (.slice A e.data.length c) e.data) := SlFl.now HS.out hb1
  clear hw1 HS HE q0 q1 q2 q3 q4
  go_wp2_with fail
  go_loopw [53] (fun iv wr => ∃ k : Nat, k ≤ e.data.length ∧ iv = .int .i64 (k : Int) ∧ Below w1.heap.size w1 wr ∧ Hid (∀ j, j < k → fldAt e.data j = true)) (fun iv _ => e.data.length - (intOf iv).toNat)
  case atStart => exact ⟨0, Nat.zero_le _, rfl, Below.refl _ _, fun j hj => absurd hj (by omega)⟩
  case round =>
    obtain ⟨k, hk, rfl, hbr, HK⟩ := hrel
    by_cases hlt : k < e.data.length
    · obtain ⟨b, o, f, rfl, hD, hx, hff, f0, f1, f2, f3⟩ := SlFl.at_ HS1.out hlt
      have HXK := Lib.hid hx
      have r5 := (hbr.cell (p := ⟨w.heap.size, 5, none⟩) hlw).trans q5
      have r0 := (hbr.cell (p := ⟨b, o + k * 4, none⟩) hD).trans f0
      have r1 := (hbr.cell (p := ⟨b, o + k * 4 + 1, none⟩) hD).trans f1
      have r2 := (hbr.cell (p := ⟨b, o + k * 4 + 2, none⟩) hD).trans f2
      have r3 := (hbr.cell (p := ⟨b, o + k * 4 + 3, none⟩) hD).trans f3
      have HN := Lib.hid (fun W => isName_any f.nm W hff.nm)
      have HV := Lib.hid (fun W => validV_any f.v W hff.v)
      unfold valV at HV
      have hN2 := Blk.new wr 64 #[.string f.nm, .int .i64 f.v.kind, .int .i64 f.v.n, .string f.v.s]
      have hb2 := bone wr (.cells #[.string f.nm, .int .i64 f.v.kind, .int .i64 f.v.n, .string f.v.s] 64)
      clear hx f0 f1 f2 f3
      go_upto_region 8 with fail
      obtain ⟨w2, hw2⟩ : ∃ w2, wr.alloc (.cells #[.string f.nm, .int .i64 f.v.kind, .int .i64 f.v.n, .string f.v.s] 64) = w2 := ⟨_, rfl⟩
      rw [hw2] at hb2 hN2 ⊢
      have hlr : wr.heap.size < w2.heap.size := by rw [← hw2]; simp
      have hb12 : Below w1.heap.size w1 w2 := hbr.trans (hb2.mono hbr.size)
      clear hw2
      have t5 : ∀ W, (ext w2 W).cell? ⟨w.heap.size, 5, none⟩ = some (.slice (some ⟨b, o, none⟩) e.data.length c) := fun W => ((ext_below w2 W).cell (p := ⟨w.heap.size, 5, none⟩) (Nat.lt_of_lt_of_le hlw hb12.size)).trans ((hb12.cell (p := ⟨w.heap.size, 5, none⟩) hlw).trans q5)
      obtain ⟨p0, p1, p2, p3⟩ := hN2.c4
      have t0 : ∀ W, (ext w2 W).cell? ⟨wr.heap.size, 0, none⟩ = some (.string f.nm) := fun W => ((ext_below w2 W).cell (p := ⟨wr.heap.size, 0, none⟩) hlr).trans p0
      have t1 : ∀ W, (ext w2 W).cell? ⟨wr.heap.size, 1, none⟩ = some (.int .i64 f.v.kind) := fun W => ((ext_below w2 W).cell (p := ⟨wr.heap.size, 1, none⟩) hlr).trans p1
      have t2 : ∀ W, (ext w2 W).cell? ⟨wr.heap.size, 2, none⟩ = some (.int .i64 f.v.n) := fun W => ((ext_below w2 W).cell (p := ⟨wr.heap.size, 2, none⟩) hlr).trans p2
      have t3 : ∀ W, (ext w2 W).cell? ⟨wr.heap.size, 3, none⟩ = some (.string f.v.s) := fun W => ((ext_below w2 W).cell (p := ⟨wr.heap.size, 3, none⟩) hlr).trans p3
      generalize hfa : fldAt e.data k = fa
      go_cut [83] from 58 to 83 (fun b W => b = .bool (!fa) ∧ Below w2.heap.size w2 W)
      case first =>
        clear HX HK
        generalize hnn : isNameB f.nm = nn at *
        generalize hvv : validV f.v = vv at *
        cases nn
        · have HFA : Hid (fa = false) := by show _ = _; rw [← hfa]; exact fldAt_bad HXK.out (by rw [hnn]; rfl)
          clear hfa hnn hvv
          refine wp_region_growV (by kernel_rfl) (by kernel_rfl) ?_
          repeat (refine veil_step (fun K hK => ?_); go_simp; first | (refine hK _ ?_; clear hK K) | (apply Exists.intro; refine ⟨fun Wq => ?_, hK _ ?_⟩; ((go_at_call 66; exact grow_same' (HN.out (ext w2 Wq)))); clear hK K))
          refine veil_nil ?_
          intro _ hw'
          obtain ⟨W, rfl⟩ := hw'
          go_wp2_with fail
          go_meet
          exact ⟨by first | (rw [HFA.out]; done) | (rw [HFA.out]; rfl), ext_below w2 W⟩
        cases vv
        · have HFA : Hid (fa = false) := by show _ = _; rw [← hfa]; exact fldAt_bad HXK.out (by rw [hnn, hvv]; rfl)
          clear hfa hnn hvv
          refine wp_region_growV (by kernel_rfl) (by kernel_rfl) ?_
          repeat (refine veil_step (fun K hK => ?_); go_simp; first | (refine hK _ ?_; clear hK K) | (apply Exists.intro; refine ⟨fun Wq => ?_, hK _ ?_⟩; ((first | (go_at_call 66; exact grow_same' (HN.out (ext w2 Wq))) | (go_at_call 67; exact grow_of (HV.out (ext w2 Wq))))); clear hK K))
          refine veil_nil ?_
          intro _ hw'
          obtain ⟨W, rfl⟩ := hw'
          go_wp2_with fail
          go_meet
          exact ⟨by first | (rw [HFA.out]; done) | (rw [HFA.out]; rfl), ext_below w2 W⟩
        cases k with
        | zero =>
          have HFA : Hid (fa = true) := by show _ = _; rw [← hfa, fldAt_zero HXK.out, hnn, hvv]; rfl
          clear hfa hnn hvv
          refine wp_region_growV (by kernel_rfl) (by kernel_rfl) ?_
          repeat (refine veil_step (fun K hK => ?_); go_simp; first | (refine hK _ ?_; clear hK K) | (apply Exists.intro; refine ⟨fun Wq => ?_, hK _ ?_⟩; ((first | (go_at_call 66; exact grow_same' (HN.out (ext w2 Wq))) | (go_at_call 67; exact grow_of (HV.out (ext w2 Wq))))); clear hK K))
          refine veil_nil ?_
          intro _ hw'
          obtain ⟨W, rfl⟩ := hw'
          go_wp2_with fail
          go_meet
          exact ⟨by first | (rw [HFA.out]; done) | (rw [HFA.out]; rfl), ext_below w2 W⟩
        | succ m =>
          obtain ⟨b', o', f', hA', hD', hx', hff', f0', f1', f2', f3'⟩ := SlFl.at_ HS1.out (k := m) (by omega)
          injection hA' with hA'
          injection hA' with e1 e2 _
          subst e1 e2
          have t6 : ∀ W, (ext w2 W).cell? ⟨b, o + m * 4, none⟩ = some (.string f'.nm) := fun W => ((ext_below w2 W).cell (p := ⟨b, o + m * 4, none⟩) (Nat.lt_of_lt_of_le hD hb12.size)).trans ((hb12.cell (p := ⟨b, o + m * 4, none⟩) hD).trans f0')
          have hls := less_at f'.nm f.nm
          have HFA : Hid (fa = decide (f'.nm.data.toList < f.nm.data.toList)) := by show _ = _; rw [← hfa, fldAt_succ HXK.out hx', hnn, hvv]; rfl
          generalize decide (f'.nm.data.toList < f.nm.data.toList) = dd at *
          have d0 : decide ((0 : Int) < (m : Int) + 1) = true := by simp <;> omega
          have d1 : (0 : Int) ≤ (m : Int) := by omega
          have d2 : (m : Int) < (e.data.length : Int) := by omega
          have d3 : IntKind.i64.wrap (m : Int) = m := i64wrap (by omega)
          clear hfa hnn hvv f0' f1' f2' f3' hx'
          refine wp_region_growV (by kernel_rfl) (by kernel_rfl) ?_
          repeat (refine veil_step (fun K hK => ?_); go_simp; first | (refine hK _ ?_; clear hK K) | (apply Exists.intro; refine ⟨fun Wq => ?_, hK _ ?_⟩; ((first | (go_at_call 66; exact grow_same' (HN.out (ext w2 Wq))) | (go_at_call 67; exact grow_of (HV.out (ext w2 Wq))))); clear hK K))
          refine veil_nil ?_
          intro _ hw'
          obtain ⟨W, rfl⟩ := hw'
          go_wp2_with fail
          go_meet
          exact ⟨by first | (rw [HFA.out]; done) | (rw [HFA.out]; rfl), ext_below w2 W⟩
      obtain ⟨rfl, hb3⟩ := hcut
      have hb13 := hb12.trans (hb3.mono hb12.size)
      cases fa
      · have HFF : Hid (fldsB e.data = false) := all_no hlt hfa
        clear hfa
        go_wp2_with fail
        go_ret
        exact ⟨ret_bool (by rw [HX.out, HFF.out]), hb1.trans (hb13.mono hb1.size)⟩
      · have HFT := Lib.hid hfa
        clear hfa
        go_wp2_with fail
        go_roundw
        case rel => exact ⟨k + 1, by omega, by go_num, hb13, fun j hj => by
          by_cases ej : j = k
          · subst ej; exact HFT.out
          · exact HK.out j (by omega)⟩
        case measure => simp [intOf]; omega
    · have HFF : Hid (fldsB e.data = true) := all_yes fun j hj => HK.out j (by omega)
      have r5 := (hbr.cell (p := ⟨w.heap.size, 5, none⟩) hlw).trans q5
      go_wp2_with fail
      go_ret
      exact ⟨ret_bool (by rw [HX.out, HFF.out]), hb1.trans (hbr.mono hb1.size)⟩
end Go.Proofs.YtjglmjdfndcmmaaGreat

set_option linter.all false
namespace Go.Proofs.YtjglmjdfndcmmaaGreat
open Go.RowKit
theorem logB_eq (l : List Ev) : logB l = (decide (l.length ≤ 2000) && (List.range l.length).all (evAt l)) := rfl
theorem evAt_zero {l : List Ev} {f : Ev} (h : l[0]? = some f) : evAt l 0 = evB f := by unfold evAt; rw [h]; simp
theorem evAt_succ {l : List Ev} {k : Nat} {f g : Ev} (h : l[k + 1]? = some f) (hg : l[k]? = some g) : evAt l (k + 1) = (evB f && decide (g.time ≤ f.time)) := by
  unfold evAt; rw [h]; simp [hg]
theorem evAt_bad {l : List Ev} {k : Nat} {f : Ev} (h : l[k]? = some f) (hb : evB f = false) : evAt l k = false := by
  unfold evAt; rw [h]; simp only [hb, Bool.false_and]
theorem lt_not_le (a b : Int) : decide (a < b) = !decide (b ≤ a) := by
  by_cases h : a < b
  · rw [decide_eq_true h, decide_eq_false (by omega)]; rfl
  · rw [decide_eq_false h, decide_eq_true (by omega)]; rfl
set_option maxHeartbeats 4000000 in
set_option maxRecDepth 100000 in
theorem logValid_any (l : List Ev) (u : Value) (w : World) (h : IsLog (Lt w.heap.size) w u l) :
    Calls Tryz.prog 27 #[u] w fun x w' => x = .returned (.bool (logB l)) ∧ Below w.heap.size w w' := by
  obtain ⟨_, rfl, h⟩ := h
  obtain ⟨A, c, rfl, h1, h2, hs⟩ := h.open_
  have hb1 := bone w (.cells #[.slice A l.length c] 25)
  have HS1 := Lib.hid (SlEv.now hs hb1)
  have hq := (Blk.new w 25 #[.slice A l.length c]).c1
  have HE := Lib.hid (logB_eq l)
  have hlw : w.heap.size < (w.alloc (.cells #[.slice A l.length c] 25)).heap.size := by simp
  clear h hs
  by_cases hl : 2000 < l.length
  · have HX : Hid (logB l = false) := by show _ = _; rw [HE.out, decide_eq_false (by omega)]; rfl
    have hl' : (2000 : Int) < (l.length : Int) := by omega
    clear hlw
    go_enter Tryz.func27, Tryz.ntmps27
    go_wp2_with fail
    go_ret
    exact ⟨ret_bool HX.out.symm, hb1⟩
  have HX : Hid (logB l = (List.range l.length).all (evAt l)) := by show _ = _; rw [HE.out, decide_eq_true (by omega)]; rfl
  have hl' : ¬ (2000 : Int) < (l.length : Int) := by omega
  clear HE
  go_enter Tryz.func27, Tryz.ntmps27
  go_wp2_with fail
  obtain ⟨w1, hw1⟩ : ∃ w1, w.alloc (.cells #[.slice A l.length c] 25) = w1 := ⟨_, rfl⟩
  rw [hw1] at hb1 HS1 hq hlw ⊢
  clear hw1 hl'
  go_loopw [12] (fun iv wr => ∃ k : Nat, k ≤ l.length ∧ iv = .int .i64 (k : Int) ∧ Below w1.heap.size w1 wr ∧ Hid (∀ j, j < k → evAt l j = true)) (fun iv _ => l.length - (intOf iv).toNat)
  case atStart => exact ⟨0, Nat.zero_le _, rfl, Below.refl _ _, fun j hj => absurd hj (by omega)⟩
  case round =>
    obtain ⟨k, hk, rfl, hbr, HK⟩ := hrel
    by_cases hlt : k < l.length
    · obtain ⟨b, o, e, dv, rfl, hD, hx, hff, hdv, f0, f1, f2, f3, f4, f5⟩ := SlEv.at_ HS1.out hlt
      obtain ⟨Ad, cd, rfl, _, _, hdv⟩ := hdv.open_
      have HXK := Lib.hid hx
      have rq := (hbr.cell (p := ⟨w.heap.size, 0, none⟩) hlw).trans hq
      have r0 := (hbr.cell (p := ⟨b, o + k * 6, none⟩) hD).trans f0
      have r1 := (hbr.cell (p := ⟨b, o + k * 6 + 1, none⟩) hD).trans f1
      have r2 := (hbr.cell (p := ⟨b, o + k * 6 + 2, none⟩) hD).trans f2
      have r3 := (hbr.cell (p := ⟨b, o + k * 6 + 3, none⟩) hD).trans f3
      have r4 := (hbr.cell (p := ⟨b, o + k * 6 + 4, none⟩) hD).trans f4
      have r5 := (hbr.cell (p := ⟨b, o + k * 6 + 5, none⟩) hD).trans f5
      have hN2 := Blk.new wr 57 #[.string e.cas, .string e.act, .string e.res, .int .i64 e.life, .int .i64 e.time, .slice Ad e.data.length cd]
      have hb2 := bone wr (.cells #[.string e.cas, .string e.act, .string e.res, .int .i64 e.life, .int .i64 e.time, .slice Ad e.data.length cd] 57)
      clear hx f0 f1 f2 f3 f4 f5
      go_upto_region 6 with fail
      obtain ⟨w2, hw2⟩ : ∃ w2, wr.alloc (.cells #[.string e.cas, .string e.act, .string e.res, .int .i64 e.life, .int .i64 e.time, .slice Ad e.data.length cd] 57) = w2 := ⟨_, rfl⟩
      rw [hw2] at hb2 hN2 ⊢
      have hlr : wr.heap.size < w2.heap.size := by rw [← hw2]; simp
      have hb12 : Below w1.heap.size w1 w2 := hbr.trans (hb2.mono hbr.size)
      clear hw2
      obtain ⟨p0, p1, p2, p3, p4, p5⟩ := hN2.c6
      have t0 : ∀ W, (ext w2 W).cell? ⟨wr.heap.size, 0, none⟩ = some (.string e.cas) := fun W => ((ext_below w2 W).cell (p := ⟨wr.heap.size, 0, none⟩) hlr).trans p0
      have t1 : ∀ W, (ext w2 W).cell? ⟨wr.heap.size, 1, none⟩ = some (.string e.act) := fun W => ((ext_below w2 W).cell (p := ⟨wr.heap.size, 1, none⟩) hlr).trans p1
      have t2 : ∀ W, (ext w2 W).cell? ⟨wr.heap.size, 2, none⟩ = some (.string e.res) := fun W => ((ext_below w2 W).cell (p := ⟨wr.heap.size, 2, none⟩) hlr).trans p2
      have t3 : ∀ W, (ext w2 W).cell? ⟨wr.heap.size, 3, none⟩ = some (.int .i64 e.life) := fun W => ((ext_below w2 W).cell (p := ⟨wr.heap.size, 3, none⟩) hlr).trans p3
      have t4 : ∀ W, (ext w2 W).cell? ⟨wr.heap.size, 4, none⟩ = some (.int .i64 e.time) := fun W => ((ext_below w2 W).cell (p := ⟨wr.heap.size, 4, none⟩) hlr).trans p4
      have t5 : ∀ W, (ext w2 W).cell? ⟨wr.heap.size, 5, none⟩ = some (.slice Ad e.data.length cd) := fun W => ((ext_below w2 W).cell (p := ⟨wr.heap.size, 5, none⟩) hlr).trans p5
      have tq : ∀ W, (ext w2 W).cell? ⟨w.heap.size, 0, none⟩ = some (.slice (some ⟨b, o, none⟩) l.length c) := fun W => ((ext_below w2 W).cell (p := ⟨w.heap.size, 0, none⟩) (Nat.lt_of_lt_of_le hlw hb12.size)).trans ((hb12.cell (p := ⟨w.heap.size, 0, none⟩) hlw).trans hq)
      have HV : Hid (∀ W, Calls Tryz.prog 45 #[evV e (.slice Ad e.data.length cd)] (ext w2 W) fun x w' => x = .returned (.bool (evB e)) ∧ Below (ext w2 W).heap.size (ext w2 W) w') :=
        fun W => eventValid_any e _ (ext w2 W) hff ((hdv.below hb12 hb12.size).below (ext_below w2 W) (ext_below w2 W).size)
      unfold evV at HV
      have zk1 : (0 : Int) ≤ (k : Int) := by omega
      have zk2 : (k : Int) < (l.length : Int) := by omega
      generalize hfa : evAt l k = fa
      clear rq r0 r1 r2 r3 r4 r5
      go_cut [35] from 17 to 35 (fun b W => b = .bool (!fa) ∧ Below w2.heap.size w2 W)
      case first =>
        clear HX HK
        generalize hnn : evB e = nn at *
        cases nn
        · have HFA : Hid (fa = false) := by show _ = _; rw [← hfa]; exact evAt_bad HXK.out hnn
          clear hfa hnn
          refine wp_region_growV (by kernel_rfl) (by kernel_rfl) ?_
          repeat (refine veil_step (fun K hK => ?_); go_simp; first | (refine hK _ ?_; clear hK K) | (apply Exists.intro; refine ⟨fun Wq => ?_, hK _ ?_⟩; ((go_at_call 45; exact grow_of (HV.out Wq))); clear hK K))
          refine veil_nil ?_
          intro _ hw'
          obtain ⟨W, rfl⟩ := hw'
          go_wp2_with fail
          go_meet
          exact ⟨by first | (rw [HFA.out]; done) | (rw [HFA.out]; rfl), ext_below w2 W⟩
        cases k with
        | zero =>
          have HFA : Hid (fa = true) := by show _ = _; rw [← hfa, evAt_zero HXK.out, hnn]
          clear hfa hnn
          refine wp_region_growV (by kernel_rfl) (by kernel_rfl) ?_
          repeat (refine veil_step (fun K hK => ?_); go_simp; first | (refine hK _ ?_; clear hK K) | (apply Exists.intro; refine ⟨fun Wq => ?_, hK _ ?_⟩; ((go_at_call 45; exact grow_of (HV.out Wq))); clear hK K))
          refine veil_nil ?_
          intro _ hw'
          obtain ⟨W, rfl⟩ := hw'
          go_wp2_with fail
          go_meet
          exact ⟨by first | (rw [HFA.out]; done) | (rw [HFA.out]; rfl), ext_below w2 W⟩
        | succ m =>
          obtain ⟨b', o', e', dv', hA', hD', hx', hff', hdv', f0', f1', f2', f3', f4', f5'⟩ := SlEv.at_ HS1.out (k := m) (by omega)
          injection hA' with hA'
          injection hA' with e1 e2 _
          subst e1 e2
          have t6 : ∀ W, (ext w2 W).cell? ⟨b, o + m * 6 + 4, none⟩ = some (.int .i64 e'.time) := fun W => ((ext_below w2 W).cell (p := ⟨b, o + m * 6 + 4, none⟩) (Nat.lt_of_lt_of_le hD hb12.size)).trans ((hb12.cell (p := ⟨b, o + m * 6 + 4, none⟩) hD).trans f4')
          have hls := lt_not_le e.time e'.time
          have HFA : Hid (fa = decide (e'.time ≤ e.time)) := by show _ = _; rw [← hfa, evAt_succ HXK.out hx', hnn]; rfl
          generalize decide (e'.time ≤ e.time) = dd at *
          have d0 : decide ((0 : Int) < (m : Int) + 1) = true := by simp <;> omega
          have d1 : (0 : Int) ≤ (m : Int) := by omega
          have d2 : (m : Int) < (l.length : Int) := by omega
          have d3 : IntKind.i64.wrap (m : Int) = m := i64wrap (by omega)
          have d4 : (0 : Int) ≤ (m : Int) + 1 := by omega
          have d5 : (m : Int) + 1 < (l.length : Int) := by omega
          clear hfa hnn f0' f1' f2' f3' f4' f5' hx'
          refine wp_region_growV (by kernel_rfl) (by kernel_rfl) ?_
          repeat (refine veil_step (fun K hK => ?_); go_simp; first | (refine hK _ ?_; clear hK K) | (apply Exists.intro; refine ⟨fun Wq => ?_, hK _ ?_⟩; ((go_at_call 45; exact grow_of (HV.out Wq))); clear hK K))
          refine veil_nil ?_
          intro _ hw'
          obtain ⟨W, rfl⟩ := hw'
          go_wp2_with fail
          go_meet
          exact ⟨by first | (rw [HFA.out]; done) | (rw [HFA.out]; rfl), ext_below w2 W⟩
      obtain ⟨rfl, hb3⟩ := hcut
      have hb13 := hb12.trans (hb3.mono hb12.size)
      cases fa
      · have HFF : Hid ((List.range l.length).all (evAt l) = false) := all_no hlt hfa
        clear hfa
        go_wp2_with fail
        go_ret
        exact ⟨ret_bool (by rw [HX.out, HFF.out]), hb1.trans (hb13.mono hb1.size)⟩
      · have HFT := Lib.hid hfa
        clear hfa
        go_wp2_with fail
        go_roundw
        case rel => exact ⟨k + 1, by omega, by go_num, hb13, fun j hj => by
          by_cases ej : j = k
          · subst ej; exact HFT.out
          · exact HK.out j (by omega)⟩
        case measure => simp [intOf]; omega
    · have HFF : Hid ((List.range l.length).all (evAt l) = true) := all_yes fun j hj => HK.out j (by omega)
      have rq := (hbr.cell (p := ⟨w.heap.size, 0, none⟩) hlw).trans hq
      go_wp2_with fail
      go_ret
      exact ⟨ret_bool (by rw [HX.out, HFF.out]), hb1.trans (hbr.mono hb1.size)⟩
end Go.Proofs.YtjglmjdfndcmmaaGreat

set_option linter.all false
namespace Go.Proofs.YtjglmjdfndcmmaaGreat
open Go.RowKit
def packE (es : List Ev) : List UInt8 × Int := if logB es then (if 262144 < (arPack es).length then ([], 5) else (arPack es, 0)) else ([], 1)
def RetPack (base : Nat) (w : World) (r : List UInt8 × Int) (e : Ending) (w' : World) : Prop := ∃ v', e = .returned (.tuple #[v', .int .i64 r.2]) ∧ OwnC w' base v' r.1 ∧ Below w.heap.size w w'
theorem arPack_len {es : List Ev} (h : logB es = true) : (arPack es).length ≤ 4900004 := by
  have := arBody_len h
  unfold arPack
  rw [List.length_append]
  show _ + 4 ≤ _
  omega
set_option maxRecDepth 100000 in
set_option maxHeartbeats 1000000 in
theorem packP_any (es : List Ev) (u : Value) (w : World) (h : IsLog (Lt w.heap.size) w u es) :
    Calls Tryz.prog 20 #[u] w (RetPack w.heap.size w (packE es)) := by
  have h0 := h
  obtain ⟨ev, rfl, hs⟩ := h
  obtain ⟨A, c, rfl, _, _, _⟩ := hs.open_
  have hb1 := bone w (.cells #[.slice A es.length c] 25)
  have hB1 := Blk.new w 25 #[.slice A es.length c]
  have hc1 := hB1.c1
  have HV := Lib.hid (logValid_any es _ _ (h0.now hb1))
  cases hv : logB es
  · have HE : Hid (packE es = ([], 1)) := by show _ = _; unfold packE; rw [hv]; rfl
    rw [hv] at HV
    clear hv h0 hs
    go_enter Tryz.func20, Tryz.ntmps20
    go_wp2_with fail
    (with_reducible refine HV.out.mono ?_)
    rintro x w1 ⟨rfl, hb2⟩
    go_wp2_with fail
    go_ret2
    refine ⟨.slice none 0 0, ?_, ?_, hb1.trans (hb2.mono hb1.size)⟩
    · rw [HE.out]; rfl
    · rw [HE.out]; exact ownC_nil _ _
  · have hpl := arPack_len hv
    have HP := Lib.hid (fun W hl => pack_any es (.agg #[.slice A es.length c]) W hl hv)
    have HE : Hid (packE es = if 262144 < (arPack es).length then ([], 5) else (arPack es, 0)) := by show _ = _; unfold packE; rw [hv, if_pos rfl]
    rw [hv] at HV
    have H0 := Lib.hid h0
    clear hv h0 hs
    generalize arPack es = L at *
    go_enter Tryz.func20, Tryz.ntmps20
    go_wp2_with fail
    (with_reducible refine HV.out.mono ?_)
    rintro x w1 ⟨rfl, hb2⟩
    have hc2 := (hB1.now hb2).c1
    have hb12 := hb1.trans (hb2.mono hb1.size)
    have HP1 := Lib.hid (HP.out w1 (H0.out.now hb12))
    go_wp2_with fail
    (with_reducible refine HP1.out.mono ?_)
    rintro x w2 ⟨v2, rfl, hO, hb3⟩
    obtain ⟨A2, c2, rfl⟩ := hO.isSlice
    by_cases hbig : 262144 < L.length
    · have hbi : (262144 : Int) < (L.length : Int) := by omega
      have HE2 : Hid ((if 262144 < L.length then (([], 5) : List UInt8 × Int) else (L, 0)) = ([], 5)) := by show _ = _; rw [if_pos hbig]
      go_wp2_with fail
      go_ret2
      refine ⟨.slice none 0 0, ?_, ?_, hb12.trans (hb3.mono hb12.size)⟩
      · rw [HE.out, HE2.out]; rfl
      · rw [HE.out, HE2.out]; exact ownC_nil _ _
    · have hbi : ¬ (262144 : Int) < (L.length : Int) := by omega
      have HE2 : Hid ((if 262144 < L.length then (([], 5) : List UInt8 × Int) else (L, 0)) = (L, 0)) := by show _ = _; rw [if_neg hbig]
      go_wp2_with fail
      go_ret2
      refine ⟨.slice A2 L.length c2, ?_, ?_, hb12.trans (hb3.mono hb12.size)⟩
      · rw [HE.out, HE2.out]; rfl
      · rw [HE.out, HE2.out]
        exact ownsRow_base_a hO hb12.size
end Go.Proofs.YtjglmjdfndcmmaaGreat

set_option linter.all false
namespace Go.Proofs.YtjglmjdfndcmmaaGreat
open Go.RowKit
theorem SlC.bytesIn {D : Nat → Prop} {w : World} {A : Option Addr} {n c : Nat} {l : List UInt8} (h : SlC D w (.slice A n c) l) : n = l.length ∧ Lib.BytesIn w A n (l.map fun c => (c.toNat : Int)) := by
  obtain ⟨h1, h2⟩ := Sl.cells1 h (fun c => Value.int .u8 (c.toNat : Int)) (fun x u h => by injection h)
  refine ⟨h1, fun hn => ?_⟩
  obtain ⟨b, o, hA, _, hc⟩ := h2 hn
  refine ⟨b, o, hA, fun i hi => ?_⟩
  rw [hc i l[i] (List.getElem?_eq_getElem (by omega))]
  rw [List.getD_eq_getElem?_getD, List.getElem?_map, List.getElem?_eq_getElem (by omega : i < l.length)]
  rfl
theorem bytesOf_nat (l : List UInt8) : Lib.bytesOf (l.map fun c => (c.toNat : Int)) = l := by
  unfold Lib.bytesOf
  rw [List.map_map]
  conv => rhs; rw [← List.map_id l]
  refine List.map_congr_left fun c _ => ?_
  simp
theorem equal_any (u v : Value) (l m : List UInt8) (w : World) {D D' : Nat → Prop} (hu : SlC D w u l) (hv : SlC D' w v m) :
    Calls Tryz.prog 10 #[u, v] w fun e w' => e = .returned (.bool (decide (l = m))) ∧ w' = w := by
  obtain ⟨A, c, rfl, _, _, hu⟩ := hu.open_
  obtain ⟨A', c', rfl, _, _, hv⟩ := hv.open_
  refine (Tryz.bytes_Equal_all A A' l.length c m.length c' _ _ w (by simp) (by simp) (SlC.bytesIn hu).2 (SlC.bytesIn hv).2).mono ?_
  rintro e w' ⟨rfl, rfl⟩
  refine ⟨?_, rfl⟩
  rw [bytesOf_nat, bytesOf_nat]
  congr 2
  by_cases h : l = m
  · subst h; simp
  · simp [h]
theorem prefix_any (u v : Value) (l m : List UInt8) (w : World) {D D' : Nat → Prop} (hu : SlC D w u l) (hv : SlC D' w v m) :
    Calls Tryz.prog 22 #[u, v] w fun e w' => e = .returned (.bool (Lib.hasPrefix l m)) ∧ w' = w := by
  obtain ⟨A, c, rfl, hc, _, hu⟩ := hu.open_
  obtain ⟨A', c', rfl, _, _, hv⟩ := hv.open_
  refine (Tryz.bytes_HasPrefix_all A A' l.length c m.length c' _ _ w (by simp) (by simp) hc (SlC.bytesIn hu).2 (SlC.bytesIn hv).2).mono ?_
  rintro e w' ⟨rfl, rfl⟩
  rw [bytesOf_nat, bytesOf_nat]
  exact ⟨rfl, rfl⟩
end Go.Proofs.YtjglmjdfndcmmaaGreat

set_option linter.all false
namespace Go.Proofs.YtjglmjdfndcmmaaGreat
open Go.RowKit
theorem le4_len (s : Nat) : (le4 s).length = 4 := rfl
theorem le4_sl {w : World} {s g : Nat} (h : s < 4294967296) (hB : Blk w g 5 #[.int .u8 ((s : Int) % 256), .int .u8 ((s : Int) / 256 % 256), .int .u8 ((s : Int) / 65536 % 256), .int .u8 ((s : Int) / 16777216)]) :
    SlC (Lt w.heap.size) w (.slice (some ⟨g, 0, none⟩) 4 4) (le4 s) := by
  have hB2 : Blk w g 5 (flat cellC (le4 s)).toArray := by rw [← le4_cells h]; exact hB
  refine Sl.ofBlk (xs := le4 s) (cs := flat cellC (le4 s)) hB2 (by unfold maxLen; rw [le4_len]; omega) fun i x hx => ⟨[.int .u8 (x.toNat : Int)], rfl, fun j u hu => ?_, rfl⟩
  match j, hu with
  | 0, hu =>
    injection hu with hu; subst hu
    rw [flatC, List.getElem?_map]
    simp [hx]
  | j + 1, hu => simp at hu
def noLog : Value := .agg #[.slice none 0 0]
set_option maxHeartbeats 2000000 in
set_option maxRecDepth 100000 in
theorem open_bad (u : Value) (l : List UInt8) (w : World) (h : SlC (Lt w.heap.size) w u l) (h4 : 4 ≤ l.length) (hm : l.length ≤ 262144) (hne : l.drop (l.length - 4) ≠ le4 (sumOf (l.take (l.length - 4)))) :
    Calls Tryz.prog 21 #[u] w fun e w' => e = .returned (.tuple #[noLog, .int .i64 14]) ∧ Below w.heap.size w w' := by
  obtain ⟨A, c, rfl, h1, h2, hs⟩ := h.open_
  obtain ⟨b, o, _, rfl, _, _, _⟩ := SlC.at_ hs (k := 0) (by omega)
  obtain ⟨n, hn⟩ : ∃ n, l.length = n + 4 := ⟨l.length - 4, by omega⟩
  have hn4 : l.length - 4 = n := by omega
  rw [hn4] at hne
  rw [hn] at hs h1 hm ⊢
  have hs1 : SlC (Lt w.heap.size) w (.slice (some ⟨b, o, none⟩) n c) (l.take n) := by
    have := Sl.sub hs 0 n c (by omega) (by omega) (by unfold maxLen; exact h2)
    rw [Nat.zero_mul, Nat.add_zero, List.drop_zero] at this
    exact this
  have hs2 : SlC (Lt w.heap.size) w (.slice (some ⟨b, o + n, none⟩) 4 (c - n)) (l.drop n) := by
    have := Sl.sub hs n 4 (c - n) (by omega) (by omega) (by unfold maxLen; omega)
    rw [Nat.mul_one, List.take_of_length_le (by rw [List.length_drop]; omega)] at this
    exact this
  have hb1 := bone w (.cells #[.slice none 0 0] 25)
  have hB1 := Blk.new w 25 #[.slice none 0 0]
  have HS1 := Lib.hid (hs1.now hb1)
  have HS2 := Lib.hid (hs2.now hb1)
  have HSM := Lib.hid (sum_any _ _ _ HS1.out)
  have hsl := sumOf_lt (l.take n)
  generalize sumOf (l.take n) = s at *
  have HNE : Hid (decide (l.drop n = le4 s) = false) := by show _ = _; simp [hne]
  have hnn : (0 : Int) ≤ (n : Int) := by omega
  have hbi : ¬ (262144 : Int) < (n : Int) + 4 := by omega
  have hnb : (n : Int) ≤ 262140 := by omega
  clear hm hn
  clear hs hs1 hs2 h hne hn4
  go_enter Tryz.func21, Tryz.ntmps21
  go_wp2_with fail
  (with_reducible refine HSM.out.mono ?_)
  rintro e w1 ⟨rfl, rfl⟩
  go_wp2_with fail
  have hB2 := Blk.new (w.alloc (.cells #[.slice none 0 0] 25)) 5 #[.int .u8 ((s : Int) % 256), .int .u8 ((s : Int) / 256 % 256), .int .u8 ((s : Int) / 65536 % 256), .int .u8 ((s : Int) / 16777216)]
  have hb2 := bone (w.alloc (.cells #[.slice none 0 0] 25)) (.cells #[.int .u8 ((s : Int) % 256), .int .u8 ((s : Int) / 256 % 256), .int .u8 ((s : Int) / 65536 % 256), .int .u8 ((s : Int) / 16777216)] 5)
  have hsl2 := le4_sl hsl hB2
  simp only [World.size_alloc] at hsl2
  have hE := equal_any _ _ _ _ _ (HS2.out.now hb2) hsl2
  rw [HNE.out] at hE
  have HE := Lib.hid hE
  have hB3 := hB1.now hb2
  have hc3 := hB3.c1
  have hf3 := hB3.frozen 0
  have hb12 := hb1.trans (hb2.mono hb1.size)
  clear hE hsl2 hB2
  (with_reducible refine HE.out.mono ?_)
  rintro e w3 ⟨rfl, rfl⟩
  go_wp2_with fail
  refine bodyPost_ret (v := .tuple #[.agg #[.slice none 0 0], .int .i64 14]) (by simp [results, Tryz.results21, go_sem, hc3]) rfl ?_
  exact ⟨rfl, hb12⟩
end Go.Proofs.YtjglmjdfndcmmaaGreat
