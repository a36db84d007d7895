/- archive.pack: what it makes of a valid log. -/
import Derived.Test.YtjglmjdfndcmmaaArBlock
import Derived.Test.YtjglmjdfndcmmaaArChunk
import Derived.RangeFuncCalls
set_option linter.all false
namespace Go.Proofs.Ytjglmjdfndcmmaa
open Go.RowKit Go.Shelf

attribute [local go_sem] Oper.semAt_some

theorem ownC_nil (w : World) (base : Nat) : OwnC w base (.slice none 0 0) [] := World.ownsRow_nil _ _ _ _
theorem OwnC.isSlice {w : World} {base : Nat} {v : Value} {l : List UInt8} (h : OwnC w base v l) : ∃ A c, v = .slice A l.length c := by
  rcases h.2 with ⟨rfl, h0⟩ | ⟨g, cap, cur, rfl, _⟩
  · exact ⟨none, 0, by rw [h0]⟩
  · exact ⟨some ⟨g, 0, none⟩, cap, rfl⟩
theorem blk_own {A B : World} {g t : Nat} {cs : Array Value} {row : Option Nat} (h : Blk A g t cs) (hg : A.grownBy B row) (hr : ∀ r, row = some r → ∃ o : Obj, A.heap[r]? = some o ∧ o.isCells = false) : Blk B g t cs :=
  h.grown hg fun e => by
    obtain ⟨o, ho, hc⟩ := hr g e.symm
    have := h.symm.trans ho
    injection this with this
    rw [← this] at hc; cases hc
theorem ownC_own {A B : World} {base : Nat} {v : Value} {l : List UInt8} {row : Option Nat} (h : OwnC A base v l) (hg : A.grownBy B row) (hr : ∀ r, row = some r → ∃ o : Obj, A.heap[r]? = some o ∧ o.isCells = false) : OwnC B base v l :=
  own_same h fun g hg' => by
    obtain ⟨cs, fz, hc⟩ := Lib.ownsRow_kind h g hg'
    refine hg.block g (Array.getElem?_eq_some_iff.1 hc).1 fun e => ?_
    obtain ⟨o, ho, hn⟩ := hr g e.symm
    have := hc.symm.trans ho
    injection this with this
    rw [← this] at hn; cases hn
theorem keeps_of_X {B : Nat} {W W' : World} (h : KeepX W W') : KeepsFrom B W W' :=
  ⟨h.size, fun k o _ hk ho => (h.same k (Array.getElem?_eq_some_iff.1 hk).1 (fun cs fz e => by rw [hk] at e; injection e with e; rw [e] at ho; cases ho)).trans hk⟩
theorem part_sl {w : World} {b o n c : Nat} {es : List Ev} (h : SlEv (Lt w.heap.size) w (.slice (some ⟨b, o, none⟩) n c) es) {x : Nat} (hx : x < nParts es) (hn : n = es.length) :
    SlEv (Lt w.heap.size) w (chunkV b o n x) (part es x) := by
  unfold nParts at hx
  subst hn
  have h2 := Sl.sub h (100 * x) (min 100 (es.length - 100 * x)) (min 100 (es.length - 100 * x)) (by omega) (Nat.le_refl _) (by unfold maxLen; omega)
  have h3 : (es.drop (100 * x)).take (min 100 (es.length - 100 * x)) = part es x := by
    unfold part
    rw [← List.length_drop, ← List.take_eq_take_min]
  rw [h3] at h2
  exact h2
theorem OwnC.set_box {w : World} {base g t : Nat} {v u : Value} {cs : Array Value} {l : List UInt8} (h : OwnC w base v l) (hG : Blk w g t cs) (ht : t ≠ 5) (i : Nat) : OwnC (w.setCell ⟨g, i, none⟩ u) base v l :=
  own_same h fun k hk => by
    obtain ⟨c, fz, hc⟩ := Lib.ownsRow_kind h k hk
    refine Below.heap_setCell w ⟨g, i, none⟩ u k fun e => ?_
    subst e
    have := hG.symm.trans hc
    injection this with this
    injection this with _ e2 _
    exact ht e2
theorem news_at (W : World) (e : TypeId) (cs : List Value) : ∀ j u, cs[j]? = some u → (W.alloc (.cells cs.toArray e)).cell? ((⟨W.heap.size, 0, none⟩ : Addr).add j) = some u := by
  intro j u hu
  have : ((⟨W.heap.size, 0, none⟩ : Addr).add j) = ⟨W.heap.size, j, none⟩ := by unfold Addr.add; by_cases hj : j = 0 <;> simp [hj]
  rw [this, (Blk.new W e cs.toArray).cell j]
  simpa using hu
theorem le4_cells {s : Nat} (h : s < 4294967296) : [Value.int .u8 ((s : Int) % 256), .int .u8 ((s : Int) / 256 % 256), .int .u8 ((s : Int) / 65536 % 256), .int .u8 ((s : Int) / 16777216)] = flat cellC (le4 s) := by
  rw [flatC]
  unfold le4
  simp only [List.map_cons, List.map_nil, UInt8.toNat_ofNat']
  have e1 : ((s % 256 % 2 ^ 8 : Nat) : Int) = (s : Int) % 256 := by omega
  have e2 : ((s / 256 % 256 % 2 ^ 8 : Nat) : Int) = (s : Int) / 256 % 256 := by omega
  have e3 : ((s / 65536 % 256 % 2 ^ 8 : Nat) : Int) = (s : Int) / 65536 % 256 := by omega
  have e4 : ((s / 16777216 % 256 % 2 ^ 8 : Nat) : Int) = (s : Int) / 16777216 := by omega
  rw [e1, e2, e3, e4]
theorem parts_fin (es : List Ev) : (List.finRange (nParts es)).flatMap (fun k => arBlock (part es k.1)) = arParts es (nParts es) := by
  unfold arParts
  have h : (List.finRange (nParts es)).map (·.1) = List.range (nParts es) := by
    apply List.ext_getElem
    · simp
    · intro i h1 h2; simp
  rw [← h, List.flatMap_map]
set_option maxRecDepth 100000 in
set_option maxHeartbeats 2000000 in
theorem pack_any (es : List Ev) (u : Value) (w : World) (h : IsLog (Lt w.heap.size) w u es) (hv : logB es = true) :
    Calls Try.prog 31 #[u] w fun e w' => ∃ v', e = .returned v' ∧ OwnC w' w.heap.size v' (arPack es) ∧ Below w.heap.size w w' := by
  obtain ⟨_, rfl, h⟩ := h
  obtain ⟨A, c, rfl, h1, h2, hs⟩ := h.open_
  obtain ⟨hlen, hok⟩ := log_parts hv
  have hmono := log_time hv
  have hb1 := bone w (.cells #[.slice A es.length c] 24)
  have hB1 := Blk.new w 24 #[.slice A es.length c]
  have hc1 := hB1.c1
  have H1 := Lib.hid (arNumber_any es.length w.heap.size _ [] (w.alloc (.cells #[.slice A es.length c] 24)) (by omega) (ownC_nil _ _) (by simp) (by have := arNum_len (n := es.length) (by omega); simp; omega))
  have hf1 : Fence.wide.fn 52 := trivial
  have hf2 : Fence.wide.fn 53 := trivial
  have hf3 : Fence.wide.fn 54 := trivial
  have hf4 : Fence.wide.fn 12 := trivial
  refine (callsIn_wide (n := 8)).1 ?_
  refine callsIn_of_wp_marks Try.func31 rfl trivial ?_ rfl
  simp only [Try.ntmps31, List.size_toArray, List.length_cons, List.length_nil, Nat.reduceAdd, Nat.reduceSub, Array.replicate_succ, Array.replicate_zero, List.push_toArray, List.append_toArray, List.nil_append, List.cons_append]
  gi_wp2_with (first | (gi_at_call 53; refine (callsIn_wide.2 (chunk_any A es.length c _)).mono ?_; rintro e w2 ⟨rfl, rfl⟩) | gi_at_call 52; refine (callsIn_wide.2 H1.out).mono ?_; rintro e w1 ⟨v1, rfl, hA1⟩; obtain ⟨Ao, co, rfl⟩ := hA1.own.isSlice; have hB1' := hB1.keepX (hA1.keepX (ownC_nil _ _)) (by decide); have hc1' : ∀ o, (w1.alloc o).cell? ⟨w.heap.size, 0, none⟩ = some (.slice A es.length c) := fun o => (hB1'.alloc o).c1)
  have hbL : Hid (Below w.heap.size w w1) := Lib.hid (Adds.below (Adds.pre (bone w _) hA1) (ownC_nil _ _) (Nat.le_refl _))
  have hgsz : Hid (w.heap.size ≤ w1.heap.size) := Lib.hid hbL.out.size
  obtain ⟨g, hg⟩ : ∃ g, w1.heap.size = g := ⟨_, rfl⟩
  have hBg := Blk.new w1 25 #[.slice Ao (arNum es.length).length co]
  have hBs := Blk.new (w1.alloc (.cells #[.slice Ao (arNum es.length).length co] 25)) 22 #[.slice A es.length c]
  have hBn := Blk.new ((w1.alloc (.cells #[.slice Ao (arNum es.length).length co] 25)).alloc (.cells #[.slice A es.length c] 22)) 3 #[.int .i64 100]
  rw [World.size_alloc, hg] at hBs
  rw [World.size_alloc, World.size_alloc, hg] at hBn
  rw [hg] at hBg
  have hBg' := (hBg.alloc (.cells #[.slice A es.length c] 22)).alloc (.cells #[.int .i64 100] 3)
  have hBs' := hBs.alloc (.cells #[.int .i64 100] 3)
  have hO1 := hA1.own
  have hwl0 := bbox (bbox (bone w1 (.cells #[.slice Ao (arNum es.length).length co] 25)) (.cells #[.slice A es.length c] 22)) (.cells #[.int .i64 100] 3)
  rw [hg]
  obtain ⟨wl, hwl⟩ : ∃ wl, ((w1.alloc (.cells #[.slice Ao (arNum es.length).length co] 25)).alloc (.cells #[.slice A es.length c] 22)).alloc (.cells #[.int .i64 100] 3) = wl := ⟨_, rfl⟩
  rw [hwl] at hBg' hBs' hBn hwl0 ⊢
  have hwls : wl.heap.size = g + 1 + 1 + 1 := by rw [← hwl]; simp [hg]
  obtain ⟨b, o, hA⟩ : ∃ b o, 0 < es.length → A = some ⟨b, o, none⟩ := by
    rcases Nat.eq_zero_or_pos es.length with h0 | h0
    · exact ⟨0, 0, fun h => absurd h (by omega)⟩
    · obtain ⟨b, o, _, _, hA, _⟩ := SlEv.at_ hs h0
      exact ⟨b, o, fun _ => hA⟩
  refine wpIn_rangeFunc_ownG rfl (by omega) (gf := 80) (lb := #[.pointer (some ⟨g + 1, 0, none⟩), .pointer (some ⟨g + 1 + 1, 0, none⟩)]) rfl trivial (enters_of Try.func80 (by kernel_rfl) rfl)
    (chunk_stops A 7 (by omega) (g + 1) (g + 1 + 1) b o es.length c h2 (by omega) h1 (nParts es) rfl hA wl (by omega) (by omega) hBs'.c1 hBn.c1) Kq.trans (Kq.put (w := wl) (by omega) (by omega)) (Below.refl _ _) (fun _ => rfl)
    (fun pre W => ((∃ v, Blk W g 25 #[v] ∧ OwnC W w.heap.size v (arNum es.length ++ pre.flatMap fun k => arBlock (part es k.1))) ∧ Blk W (g + 1) 22 #[.slice A es.length c] ∧ Blk W (g + 1 + 1) 3 #[.int .i64 100]) ∧ Below w.heap.size w W)
    (fun _ _ _ => False)
    (OwnFrom.and (Own.from (fun s A B row hs hg hr => by
      obtain ⟨⟨v, e1, e2⟩, e3, e4⟩ := hs
      exact ⟨⟨v, blk_own e1 hg hr, ownC_own e2 hg hr⟩, blk_own e3 hg hr, blk_own e4 hg hr⟩) _) (ownFrom_below (Nat.le_refl _) (by have := hgsz.out; omega)))
    (fun _ _ _ _ _ hs _ _ => hs)
    ⟨⟨⟨_, hBg', by simpa using OwnC.now hO1 hwl0⟩, hBs', hBn⟩, hbL.out.trans (hwl0.mono hbL.out.size)⟩
    (fun x => { tmps := #[.agg #[.slice A es.length c], .pointer (some ⟨w.heap.size, 0, none⟩), .slice none 0 0, .pointer (some ⟨g, 0, none⟩), chunkV b o es.length x.1, undef, .pointer (some ⟨w.heap.size, 0, none⟩), .slice A es.length c, .int .i64 es.length, .slice Ao (arNum es.length).length co, .pointer (some ⟨w.heap.size, 0, none⟩), .slice A es.length c, .func (.func 80) #[] #[.pointer (some ⟨g + 1, 0, none⟩), .pointer (some ⟨g + 1 + 1, 0, none⟩)], chunkV b o es.length x.1, undef, undef, undef, undef, undef, undef, undef, undef, undef, undef, undef, undef, undef, undef, undef, undef, undef, undef, undef], defers := [] }) ?assign ?body ?done ?stop
  case assign =>
    intro l x W K hK
    gi_wp2
    exact hK
  case body =>
    rintro l pre x W ⟨⟨⟨v, hG, hO⟩, hS, hN⟩, hB⟩ hlt
    obtain ⟨Lp, hLp⟩ : ∃ Lp, arNum es.length ++ (pre.flatMap fun k => arBlock (part es k.1)) = Lp := ⟨_, rfl⟩
    have HLp := Lib.hid hLp
    rw [hLp] at hO
    obtain ⟨Av, cv, rfl⟩ := hO.isSlice
    have hx := x.2
    have hnp : nParts es ≤ 20 := by unfold nParts; omega
    have hne : 0 < es.length := by unfold nParts at hx; omega
    have hsA := hs
    rw [hA hne] at hsA
    have hpart := part_sl hsA hx rfl
    have hroom : Lp.length + (arBlock (part es x.1)).length ≤ 9000000 := by
      have a1 := arNum_len (n := es.length) (by omega)
      have a2 := flat_le (fun k : Fin (nParts es) => arBlock (part es k.1)) 240000 pre (fun k _ => arBlock_len (fun e he => hok e (part_mem he)) (part_len es k.1))
      have a3 := arBlock_len (l := part es x.1) (fun e he => hok e (part_mem he)) (part_len es x.1)
      rw [← hLp, List.length_append]
      omega
    clear hLp
    have HC := Lib.hid (block_any (part es x.1) (chunkV b o es.length x.1) w.heap.size _ _ W (SlEv.below hpart hB (Nat.le_refl _)) (fun e he => hok e (part_mem he)) (part_len es x.1) (hmono.sublist ((List.take_sublist _ _).trans (List.drop_sublist _ _))) hO hB.size hroom)
    have hc := hG.c1
    gi_wp2_with (gi_at_call 54; go_loud (refine (CallsIn.inRound l (callsIn_wide.2 HC.out)).mono ?_); rintro e W1 ⟨v', rfl, hA2⟩; obtain ⟨Aw, cw, rfl⟩ := hA2.own.isSlice; have HX := Lib.hid (hA2.keepX hO); have hG1 := hG.keepX HX.out (by decide); have hc1 := hG1.c1; have hf1 := hG1.frozen 0)
    have hO2 := hA2.own
    rw [List.length_append] at hO2
    have hS1 := (hS.keepX HX.out (by decide)).far (p := ⟨g, 0, none⟩) (show g + 1 ≠ g by omega) (.slice Aw (Lp.length + (arBlock (part es x.1)).length) cw)
    have hN1 := (hN.keepX HX.out (by decide)).far (p := ⟨g, 0, none⟩) (show g + 1 + 1 ≠ g by omega) (.slice Aw (Lp.length + (arBlock (part es x.1)).length) cw)
    have hwg := hgsz.out
    refine ⟨(keeps_of_X HX.out).trans ((KeepsOthers.setCell _ _ _).from _), ⟨hS1.trans hS.symm, hN1.trans hN.symm⟩, ⟨⟨_, hG1.set_ 0 _, ?_⟩, hS1, hN1⟩, (hB.trans (hA2.below hO hB.size)).setCell (p := ⟨g, 0, none⟩) (by rw [hg] at hwg; exact hwg) _⟩
    rw [List.flatMap_append, ← List.append_assoc, HLp.out, List.flatMap_cons, List.flatMap_nil, List.append_nil]
    exact hO2.set_box hG1 (by decide) 0
  case done =>
    rintro D ys W hD rfl ⟨⟨⟨v, hG, hO⟩, hS, hN⟩, hB⟩ hK
    rw [parts_fin] at hO
    have hbody : arNum es.length ++ arParts es (nParts es) = arBody es := rfl
    rw [hbody] at hO
    obtain ⟨Av, cv, rfl⟩ := hO.isSlice
    have hc := hG.c1
    have HSM := Lib.hid (sum_any _ _ W hO.slC)
    have hbl := arBody_len hv
    have hsl := sumOf_lt (arBody es)
    have HPK : Hid (arPack es = arBody es ++ le4 (sumOf (arBody es))) := Lib.hid rfl
    generalize arBody es = L at *
    generalize sumOf L = s at *
    obtain ⟨i0, hi, hz0, hz1, hz2⟩ := info_parts byteInfo'
    have HO := Lib.hid hO
    have HCE := Lib.hid (le4_cells hsl)
    have hbs := hB.size
    gi_wp2_with (first
      | (gi_at_call 12; refine (callsIn_wide.2 HSM.out).mono ?_; rintro e W1 ⟨rfl, rfl⟩)
      | (gi_at_builtin; refine wpListIn_append_own _ rfl (.tmp 19) (.tmp 31) 25 rfl w.heap.size 5 i0 (.int .u8 0) 1 1 Try.underlying25 hi hz0 hz1 hz2 rfl (by decide) (.slice Av L.length cv) L.length (flat cellC L) rfl (World.ownsRow.alloc HO.out _) ⟨W.heap.size, 0, none⟩ 4 4 [.int .u8 ((s : Int) % 256), .int .u8 ((s : Int) / 256 % 256), .int .u8 ((s : Int) / 65536 % 256), .int .u8 ((s : Int) / 16777216)] rfl rfl (news_at W 5 _) (by simp [Value.oneCell']) (by unfold maxLen; omega) (by omega) (by simp; omega) ?_; intro v' w5 hown' hgr _))
    have hgW : W.grownBy w5 (Value.slice Av L.length cv).ownBlock := ⟨hgr.os, hgr.tape, hgr.output, Nat.le_trans (by simp) hgr.size, fun k hk hne => (hgr.block k (by simp; omega) hne).trans (Below.heap_alloc _ _ _ hk)⟩
    have hK5 : w5.heap[D]? = some (.deferred (some [])) := (hgW.block D (Array.getElem?_eq_some_iff.1 hK).1 (fun e => by
      obtain ⟨c0, fz, hc0⟩ := Lib.ownsRow_kind HO.out D e.symm
      rw [hK] at hc0; cases hc0)).trans hK
    have hOf : OwnC w5 w.heap.size v' (arPack es) := by
      rw [HPK.out]
      unfold OwnC OwnW
      rw [flat_append, ← HCE.out, List.length_append]
      exact hown'
    have hB5 : Below w.heap.size w w5 := hB.trans (below_of_grown hgW hbs fun k hk => (World.ownsRow.lt HO.out k hk).1)
    have hDw : w.heap.size ≤ D := by have := hgsz.out; omega
    refine ⟨by simp, .inl ⟨_, _, rfl, run_takeDeferred hK5, ?_⟩⟩
    exact ⟨_, results_tmp rfl _ _ _, _, rfl, ownC_own hOf (grownBy_putObj' _ _ _) (fun r e => by cases e; exact ⟨_, hK5, rfl⟩), hB5.trans (belowK_b (w := w) (Nat.le_refl _) w5 D _ _ hDw hK5 rfl rfl)⟩
  case stop =>
    rintro D c pre W _ _ h _
    exact h.elim
end Go.Proofs.Ytjglmjdfndcmmaa
