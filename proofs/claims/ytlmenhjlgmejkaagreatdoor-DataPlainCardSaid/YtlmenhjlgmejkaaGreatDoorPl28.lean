/- Merged texts. -/
import Derived.Test.YtlmenhjlgmejkaaGreatDoorPl27
set_option linter.all false
namespace Go.Proofs.YtlmenhjlgmejkaaGreatDoor
open Go.RowKit
section
variable {X X' : Nat → Prop} {w w' : World} {v v' u : Value} {zs : List Int}
theorem on_step {row : Option Nat} (h : SlI (Off X w v) w u zs) (hg : w.grownBy w' row) (hr : ∀ g, row = some g → X g ∨ v.ownBlock = some g) (hX : ∀ b, X' b → X b ∨ w.heap.size ≤ b) (hv : ∀ b, v'.ownBlock = some b → v.ownBlock = some b ∨ w.heap.size ≤ b) : SlI (Off X' w' v') w' u zs :=
  Sl.keep h RInt.kept (fun b hb => ⟨Nat.lt_of_lt_of_le hb.1 hg.size, fun e => by
      rcases hv b e with h' | h'
      · exact hb.2.1 h'
      · have := hb.1; omega, fun e => by
      rcases hX b e with h' | h'
      · exact hb.2.2 h'
      · have := hb.1; omega⟩)
    (fun b hb => hg.block b hb.1 (fun e => by
      rcases hr b e.symm with h' | h'
      · exact hb.2.2 h'
      · exact hb.2.1 h'))
theorem on_now (h : SlI (Off X w v) w u zs) (hb : Below w.heap.size w w') : SlI (Off X w' v) w' u zs :=
  on_step h (grown_of_below hb none) (fun _ e => by cases e) (fun _ h => .inl h) (fun _ h => .inl h)
theorem on_new {base gs gm : Nat} {sv mv : Value} {p : Sp} (hI : SpI w base gs gm sv mv p) (h : SlI (Fr w.heap.size w') w' u zs) : SlI (Off (SpX base gs gm mv) w' sv) w' u zs :=
  Sl.keep h RInt.kept (fun b hb' => ⟨hb'.2, fun e => by
      have := (hI.st.lt b e).2
      have := hb'.1
      omega, fun e => by
      have h1 := hb'.1
      rcases e with e | e | e | e
      · have := hI.bl.lt; have := hI.lo2; omega
      · have := hI.bl.lt; omega
      · have := hI.mp.lt; omega
      · have := (hI.mo.lt b e).2; omega⟩) (Same.refl _ _)
theorem on_cut {base gs gm : Nat} {mv : Value} (h : SlI (Off (SpX base gs gm mv) w v) w u zs) (x : Value) (i : Nat) : SlI (Off (SpX base gs gm mv) (w.setCell ⟨gs, i, none⟩ x) v) (w.setCell ⟨gs, i, none⟩ x) u zs :=
  on_step h (grown_set w ⟨gs, i, none⟩ x) (fun g e => by injection e with e; exact .inl (.inr (.inl e.symm))) (fun _ h => .inl h) (fun _ h => .inl h)
theorem on_put {base gs gm : Nat} {mv : Value} (h : SlI (Off (SpX base gs gm mv) w v) w u zs) (hg : w.grownBy w' (some gm)) : SlI (Off (SpX base gs gm mv) w' v) w' u zs :=
  on_step h hg (fun g e => by injection e with e; exact .inl (.inr (.inr (.inl e.symm)))) (fun _ h => .inl h) (fun _ h => .inl h)
theorem on_pushM {base gs gm : Nat} {mv mv' : Value} (h : SlI (Off (SpX base gs gm mv) w v) w u zs) (hg : w.grownBy w' mv.ownBlock) (hat : mv'.ownBlock = mv.ownBlock ∨ mv'.ownBlock = some (w.heap.size + 1)) (x : Value) : SlI (Off (SpX base gs gm mv') (w'.setCell ⟨gs, 1, none⟩ x) v) (w'.setCell ⟨gs, 1, none⟩ x) u zs := by
  refine on_cut (on_step h hg (fun g e => .inl (.inr (.inr (.inr e)))) (fun b hb => ?_) (fun _ h => .inl h)) x 1
  rcases hb with hb | hb | hb | hb
  · exact .inl (.inl hb)
  · exact .inl (.inr (.inl hb))
  · exact .inl (.inr (.inr (.inl hb)))
  · rcases hat with e | e
    · exact .inl (.inr (.inr (.inr (by rw [← e]; exact hb))))
    · rw [e] at hb
      injection hb with hb
      exact .inr (by omega)
theorem on_pushS {base gs gm : Nat} {mv : Value} (h : SlI (Off (SpX base gs gm mv) w v) w u zs) (hg : w.grownBy w' v.ownBlock) (hat : v'.ownBlock = v.ownBlock ∨ v'.ownBlock = some (w.heap.size + 1)) (x : Value) : SlI (Off (SpX base gs gm mv) (w'.setCell ⟨gs, 0, none⟩ x) v') (w'.setCell ⟨gs, 0, none⟩ x) u zs := by
  refine on_cut (on_step h hg (fun g e => .inr e) (fun _ h => .inl h) (fun b hb => ?_)) x 0
  rcases hat with e | e
  · exact .inl (by rw [← e]; exact hb)
  · rw [e] at hb
    injection hb with hb
    exact .inr (by omega)
end
theorem SlRow.at_ {D : Nat → Prop} {w : World} {l : List St} {A : Option Addr} {n c k : Nat} (h : Sl 1 RMk D w (.slice A n c) l) (hk : k < n) :
    ∃ b o s u, A = some ⟨b, o, none⟩ ∧ D b ∧ l[k]? = some s ∧ SlI D w u s.marks ∧ w.cell? ⟨b, o + k, none⟩ = some u := by
  obtain ⟨b, o, x, u, hA, hD, hx, ⟨u', hu, hf⟩, hc⟩ := Sl.at1 h hk
  injection hu with hu; subst hu
  exact ⟨b, o, x, u, hA, hD, hx, hf, hc⟩
theorem enE_bad {n : Net} {m : List Int} (h : (validB n && markingB n.places m) = false) : enE n m = ([], 1) := by unfold enE; rw [h]; rfl
theorem enE_ok {n : Net} {m : List Int} (h : (validB n && markingB n.places m) = true) : enE n m = (enB n m, 0) := by unfold enE; rw [h]; rfl
theorem fireE_ok {n : Net} {m : List Int} {t : Int} (h : (validB n && markingB n.places m) = true) : fireE n m t = fireB n m t := by unfold fireE; rw [h]; rfl
theorem plain_fire0 {n : Net} {s : St} {t : Nat} (hs : s.vals = []) (ht : t < n.trans.length) (h : (fireB n s.marks (t : Int)).2 = 0) : fireD (plainD n) s (t : Int) = (⟨(fireB n s.marks (t : Int)).1, []⟩, 0) := by
  obtain ⟨m, v⟩ := s
  dsimp only at hs h ⊢
  subst hs
  rw [plain_fire n m t ht, if_pos h]
theorem plain_fire5 {n : Net} {s : St} {t : Nat} (hs : s.vals = []) (ht : t < n.trans.length) (h : (fireB n s.marks (t : Int)).2 = 5) : (fireD (plainD n) s (t : Int)).2 = 5 := by
  obtain ⟨m, v⟩ := s
  dsimp only at hs h
  subst hs
  rw [plain_fire n m t ht, if_neg (by omega)]
  exact h
theorem exT_five {n : Net} {most i t : Nat} {s : St} {p : Sp} (h : (fireD (plainD n) s (t : Int)).2 = 5) : exT (plainD n) most i s t p = some ⟨p.states, p.moves, false⟩ := by
  rw [exT_err (by omega), h]
  simp
set_option maxHeartbeats 32000000 in
set_option maxRecDepth 100000 in
theorem spExplore_any (n : Net) (m : List Int) (most : Int) (u mv : Value) (w : World) (h : IsNet (Lt w.heap.size) w u n) (hm : SlI (Lt w.heap.size) w mv m) :
    Calls Tryz.prog 54 #[u, mv, .int .i64 most] w (RetSp (dexplE (plainD n) ⟨m, []⟩ most) w) := by
  have h0 := h
  obtain ⟨tv, rfl, hp, hs, hkk, ht⟩ := h
  obtain ⟨At, ct, rfl, t1, t2, ht⟩ := ht.open_
  obtain ⟨Am, cm, rfl, m1, m2, hm⟩ := hm.open_
  clear ht hp hs hkk
  have hb0 := bone w (.cells #[.int .i64 n.places, .slice At n.trans.length ct, .int .i64 n.source, .int .i64 n.sink] 24)
  have hb := bbox hb0 (.cells #[.slice none 0 0, .slice none 0 0, .bool false] 104)
  have hB := (Blk.new w 24 #[.int .i64 n.places, .slice At n.trans.length ct, .int .i64 n.source, .int .i64 n.sink]).alloc (.cells #[.slice none 0 0, .slice none 0 0, .bool false] 104)
  have hZ := (Blk.new_at (t := 104) (cs := #[.slice none 0 0, .slice none 0 0, .bool false]) (w := w.alloc (.cells #[.int .i64 n.places, .slice At n.trans.length ct, .int .i64 n.source, .int .i64 n.sink] 24)) (s := w.heap.size + 1) (by simp))
  have hd1 := h0.now hb
  have hm1 := hm.now hb
  have hmm := @run_makeMap Tryz.prog
  clear hb0 hm
  go_enter Tryz.func54, Tryz.ntmps54
  go_upto_region 1 with fail
  generalize hw1e : (w.alloc (.cells #[.int .i64 n.places, .slice At n.trans.length ct, .int .i64 n.source, .int .i64 n.sink] 24)).alloc (.cells #[.slice none 0 0, .slice none 0 0, .bool false] 104) = w1 at *
  clear hw1e
  obtain ⟨q0, q1, q2, q3⟩ := hB.c4
  go_wp2_with fail
  refine (enabledF_any n _ _ m _ hd1 hm1).mono ?_
  rintro e w2 ⟨v2, rfl, _, hb2⟩
  have hbw2 := bthen hb hb2
  have hB2 := hB.now hb2
  have hZ2 := hZ.now hb2
  have hd2 := hd1.now hb2
  have hm2 := hm1.now hb2
  clear q0 q1 q2 q3 hB hZ hd1 hm1 hb2
  have hsz2 : w.heap.size + 2 ≤ w2.heap.size := by have := hZ2.lt; omega
  have hpv := plain_state n m
  cases hq : (validB n && markingB n.places m)
  · rw [hq] at hpv
    have HR := Lib.hid (dexplE_bad (most := most) hpv)
    have HE := Lib.hid (enE_bad hq)
    rw [HE.out]
    clear hq hpv
    obtain ⟨z0, z1, z2⟩ := hZ2.c3
    have f0 := hZ2.frozen 0
    have f1 := hZ2.frozen 1
    have f2 := hZ2.frozen 2
    go_wp2_with fail
    obtain ⟨r0, r1, r2⟩ := (hZ2.set3 (.slice none 0 0) (.slice none 0 0) (.bool false)).c3
    refine bodyPost_ret (v := .tuple #[.agg #[.slice none 0 0, .slice none 0 0, .bool false], .int .i64 1]) (by simp [results, Tryz.results54, go_sem, r0, r1, r2]) rfl ?_
    rw [HR.out]
    exact ⟨_, _, rfl, Sl.none_, Sl.none_, bset3 hbw2 (by omega) _ _ _⟩
  rw [hq] at hpv
  have HE := Lib.hid (enE_ok hq)
  rw [HE.out]
  by_cases c1 : most < 1
  · have HR := Lib.hid (dexplE_range hpv (.inl c1))
    clear hq hpv
    obtain ⟨z0, z1, z2⟩ := hZ2.c3
    have f0 := hZ2.frozen 0
    have f1 := hZ2.frozen 1
    have f2 := hZ2.frozen 2
    go_wp2_with fail
    obtain ⟨r0, r1, r2⟩ := (hZ2.set3 (.slice none 0 0) (.slice none 0 0) (.bool false)).c3
    refine bodyPost_ret (v := .tuple #[.agg #[.slice none 0 0, .slice none 0 0, .bool false], .int .i64 2]) (by simp [results, Tryz.results54, go_sem, r0, r1, r2]) rfl ?_
    rw [HR.out]
    exact ⟨_, _, rfl, Sl.none_, Sl.none_, bset3 hbw2 (by omega) _ _ _⟩
  by_cases c2 : 2000 < most
  · have HR := Lib.hid (dexplE_range hpv (.inr c2))
    clear hq hpv
    obtain ⟨z0, z1, z2⟩ := hZ2.c3
    have f0 := hZ2.frozen 0
    have f1 := hZ2.frozen 1
    have f2 := hZ2.frozen 2
    go_wp2_with fail
    obtain ⟨r0, r1, r2⟩ := (hZ2.set3 (.slice none 0 0) (.slice none 0 0) (.bool false)).c3
    refine bodyPost_ret (v := .tuple #[.agg #[.slice none 0 0, .slice none 0 0, .bool false], .int .i64 2]) (by simp [results, Tryz.results54, go_sem, r0, r1, r2]) rfl ?_
    rw [HR.out]
    exact ⟨_, _, rfl, Sl.none_, Sl.none_, bset3 hbw2 (by omega) _ _ _⟩
  obtain ⟨mo, rfl⟩ := Int.eq_ofNat_of_zero_le (show 0 ≤ most by omega)
  have hmo : 1 ≤ mo ∧ mo ≤ 2000 := by omega
  have HRN := Lib.hid (fun (he : exFrom (plainD n) ⟨m, []⟩ mo = none) => dexplE_none hpv hmo he)
  have HRS := Lib.hid (fun (p : Sp) (he : exFrom (plainD n) ⟨m, []⟩ mo = some p) => dexplE_some hpv hmo he)
  have HV := Lib.hid (vstate_parts hpv)
  obtain ⟨hv1, hv2⟩ := (Bool.and_eq_true _ _).mp hq
  have HVN := Lib.hid hv1
  have htl : n.trans.length ≤ 60 := (validOk hv1).2.2.1
  have hmk := markOk (n := n) hv2
  have hnp := (validOk hv1).2.1
  have hmb : m.length ≤ 1000 := by omega
  have HMS := Lib.hid hmk.2
  clear hq hpv hv1 hv2 hmk hnp
  go_wp2_with fail
  refine (cloneI_grown _ m w2 w2 hm2 (Below.refl _ _) hmb).mono ?_
  rintro e w3 ⟨Am3, cm3, rfl, hm3, hb3, _⟩
  have hsz3 := hb3.size
  have hst4 := own_singleM (X := fun b => b < w2.heap.size ∨ w3.heap.size + 1 ≤ b) (s := ⟨m, []⟩) hm3 hsz3 (fun b hb => by omega)
  have hb4 := bone w3 (.cells #[.slice Am3 m.length cm3] 31)
  have hst5 := hst4.now RMk.kept (bone _ (.cells #[.slice (some ⟨w3.heap.size, 0, none⟩) 1 1, .slice none 0 0, .bool true] 104))
  have hG5 := Blk.new_at (t := 104) (cs := #[.slice (some ⟨w3.heap.size, 0, none⟩) 1 1, .slice none 0 0, .bool true]) (w := w3.alloc (.cells #[.slice Am3 m.length cm3] 31)) (s := w3.heap.size + 1) (by simp)
  have hb5 := bbox (bbox hb3 (.cells #[.slice Am3 m.length cm3] 31)) (.cells #[.slice (some ⟨w3.heap.size, 0, none⟩) 1 1, .slice none 0 0, .bool true] 104)
  clear hm3 hb3 hst4 hb4
  go_upto_region 7 with fail
  have hsz5 : w3.heap.size + 2 ≤ ((w3.alloc (.cells #[.slice Am3 m.length cm3] 31)).alloc (.cells #[.slice (some ⟨w3.heap.size, 0, none⟩) 1 1, .slice none 0 0, .bool true] 104)).heap.size ∧ ((w3.alloc (.cells #[.slice Am3 m.length cm3] 31)).alloc (.cells #[.slice (some ⟨w3.heap.size, 0, none⟩) 1 1, .slice none 0 0, .bool true] 104)).heap.size ≤ w3.heap.size + 2 := by simp
  generalize hw5 : (w3.alloc (.cells #[.slice Am3 m.length cm3] 31)).alloc (.cells #[.slice (some ⟨w3.heap.size, 0, none⟩) 1 1, .slice none 0 0, .bool true] 104) = w5 at *
  clear hw5
  have hb56 := bone w5 (.map #[] 0)
  have hp6 : PosI (w5.alloc (.map #[] 0)) w5.heap.size 0 [] := PosP.made w5
  have hm6 := (hm2.now hb5).now hb56
  have hb6 := bthen hb5 hb56
  have HK := Lib.hid (spKey_any m _ (w5.alloc (.map #[] 0)) hm6 HMS.out hmb)
  have hks := key2_size hmb
  go_wp2_with fail
  refine HK.out.mono ?_
  rintro e w7 ⟨rfl, hb7⟩
  have hp7 : PosI w7 w5.heap.size 0 [] := hp6.now hb7
  have hb67 := bthen hb6 hb7
  have hst7 := (hst5.now RMk.kept hb56).now RMk.kept hb7
  have hG7 := (hG5.now hb56).now hb7
  have HKS : Hid ((⟨(key2 m).toArray⟩ : ByteArray).data.toList = key2 m) := rfl
  generalize hkk : (⟨(key2 m).toArray⟩ : ByteArray) = K at *
  clear HK hm6 hp6 hkk hb56 hb7 hst5 hG5
  obtain ⟨w8, hrun8, hp8, hg8⟩ := hp7.put (z := 0) hks (by unfold maxLen; omega) (by simp) rfl rfl
  have hb8 : Below w2.heap.size w2 w8 := hb67.trans (below_of_grown hg8 hb67.size (fun g hg => by injection hg with hg; omega))
  have hst8 : OwnR 1 RMk (SpX w2.heap.size (w3.heap.size + 1) w5.heap.size (.slice none 0 0)) w8 w2.heap.size 31 (.slice (some ⟨w3.heap.size, 0, none⟩) 1 1) [⟨m, []⟩] :=
    hst7.regrown RMk.kept hg8 (fun g hg => by injection hg with hg; subst hg; exact ⟨by omega, by simp [Value.ownBlock]; omega⟩) (fun b hb => by
      rcases hb with hb | hb | hb | hb
      · exact .inl (.inl hb)
      · exact .inl (by omega)
      · exact .inl (by omega)
      · simp [Value.ownBlock] at hb)
  have hI8 : SpI w8 w2.heap.size (w3.heap.size + 1) w5.heap.size (.slice (some ⟨w3.heap.size, 0, none⟩) 1 1) (.slice none 0 0) ⟨[⟨m, []⟩], [], true⟩ := by
    refine ⟨hst8, OwnW.nil, ?_, hG7.grown hg8 (fun e => by injection e with e; omega), by omega, by omega⟩
    have := hp8
    rw [HKS.out] at this
    exact this
  clear hp7 hp8 hg8 hst7 hst8 HKS hG7
  generalize w3.heap.size + 1 = gs at *
  go_upto_region 9 with fail
  clear hrun8
  go_wp2_with fail
  have hsz8 := hb8.size
  have HIV := Lib.hid (inv_start (n := plainD n) (s := ⟨m, []⟩) (state_mk HVN.out (by exact (state_parts HV.out.2).2.1) asg_nil) hmo.1)
  go_loopw [12] (fun iv wr => ∃ (i : Nat) (p : Sp) (sv mv : Value), iv = .int .i64 i ∧ SpI wr w2.heap.size gs w5.heap.size sv mv p ∧ DInv (plainD n) ⟨m, []⟩ mo p ∧ i ≤ p.states.length ∧ exAll (plainD n) mo (mo + 1 - i) i p = exFrom (plainD n) ⟨m, []⟩ mo ∧ Below w2.heap.size w2 wr) (fun iv _ => mo + 1 - (intOf iv).toNat)
  case atStart => exact ⟨0, _, _, _, rfl, hI8, HIV.out, Nat.zero_le _, rfl, hb8⟩
  case round =>
    obtain ⟨i, p, sv, mv, rfl, hI, hD, hi, hall, hbr⟩ := hrel
    have HD := Lib.hid hD
    have HALL := Lib.hid hall
    clear hD hall hI8 hb8
    obtain ⟨As, cs, rfl⟩ := hI.st.open_
    obtain ⟨Ax, cx, rfl⟩ := OwnM.form hI.mo
    have hbwr := bthen hbw2 hbr
    have hle := HD.out.le
    obtain ⟨p0, p1, p2⟩ := hI.bl.c3
    by_cases hlt : i < p.states.length
    rotate_left
    · have HE := Lib.hid (HRS.out p (all_end (List.getElem?_eq_none (by omega)) HALL.out))
      have hZr := hZ2.now hbr
      obtain ⟨z0, z1, z2⟩ := hZr.c3
      have f0 := hZr.frozen 0
      have f1 := hZr.frozen 1
      have f2 := hZr.frozen 2
      have hi' : ¬ (i : Int) < (p.states.length : Int) := by omega
      go_wp2_with fail
      obtain ⟨r0, r1, r2⟩ := (hZr.set3 (.slice As p.states.length cs) (.slice Ax p.moves.length cx) (.bool p.full)).c3
      refine bodyPost_ret (v := .tuple #[.agg #[.slice As p.states.length cs, .slice Ax p.moves.length cx, .bool p.full], .int .i64 0]) (by simp [results, Tryz.results54, go_sem, r0, r1, r2]) rfl ?_
      rw [HE.out]
      have hbF := bset3 hbwr (g := w.heap.size + 1) (by omega) (.slice As p.states.length cs) (.slice Ax p.moves.length cx) (.bool p.full)
      have hng : (Value.slice As p.states.length cs).ownBlock ≠ some (w.heap.size + 1) := fun e => by have := (hI.st.lt _ e).1; omega
      have hgl : w.heap.size + 1 < w2.heap.size := by omega
      have hsl1 := ((((hI.st.far RMk.kept (p := ⟨w.heap.size + 1, 0, none⟩) (.inl hgl) hng (.slice As p.states.length cs)).far RMk.kept (p := ⟨w.heap.size + 1, 1, none⟩) (.inl hgl) hng (.slice Ax p.moves.length cx)).far RMk.kept (p := ⟨w.heap.size + 1, 2, none⟩) (.inl hgl) hng (.bool p.full))).sl RMk.kept
      have hmo3 : OwnM _ w2.heap.size (.slice Ax p.moves.length cx) p.moves := OwnW.far (OwnW.far (OwnW.far hI.mo (p := ⟨w.heap.size + 1, 0, none⟩) hgl (.slice As p.states.length cs)) (p := ⟨w.heap.size + 1, 1, none⟩) hgl (.slice Ax p.moves.length cx)) (p := ⟨w.heap.size + 1, 2, none⟩) hgl (.bool p.full)
      exact ⟨_, _, rfl, marks_sl hsl1, hmo3.sl (inv_small HD.out hmo.2 htl), hbF⟩
    obtain ⟨si, hsi⟩ : ∃ si, p.states[i]? = some si := ⟨p.states[i], List.getElem?_eq_getElem hlt⟩
    have HSO : Hid (stateB (plainD n) si = true) := HD.out.ok si (List.mem_of_getElem? hsi)
    have HSV := Lib.hid (vals_nil HSO.out)
    have HSI := Lib.hid hsi
    have HROW := Lib.hid (all_someL HSV.out (by omega) hsi HALL.out)
    clear hsi
    have hBr := hB2.now hbr
    obtain ⟨q0, q1, q2, q3⟩ := hBr.c4
    obtain ⟨bs, os, si', mvs, rfl, hDs, hsi', hsm, c0⟩ := SlRow.at_ (hI.st.sl RMk.kept) hlt
    obtain rfl : si = si' := by rw [HSI.out] at hsi'; injection hsi'
    clear hsi'
    obtain ⟨Ams, cms, rfl, _, _, hsm⟩ := hsm.open_
    have HVB : Hid ((validB n && markingB n.places si.marks) = true) := by
      show _ = _
      rw [HVN.out, (show markingB n.places si.marks = true from (state_parts HSO.out).2.1)]; rfl
    have HEN : Hid (enE n si.marks = (enB n si.marks, 0)) := enE_ok HVB.out
    have HCE : Hid (∀ W, Below wr.heap.size wr W → Calls Tryz.prog 55 #[.agg #[.int .i64 n.places, .slice At n.trans.length ct, .int .i64 n.source, .int .i64 n.sink], .slice Ams si.marks.length cms] W fun e w' => ∃ Ao co, e = .returned (.tuple #[.slice Ao (enB n si.marks).length co, .int .i64 0]) ∧ SlI (Fr wr.heap.size w') w' (.slice Ao (enB n si.marks).length co) (enB n si.marks) ∧ Below wr.heap.size wr w' ∧ Below W.heap.size W w') := fun W hW => by
      refine (enabledF_any n _ _ si.marks W ((h0.now hbwr).now hW) (hsm.now hW)).mono ?_
      rintro e w' ⟨v', he, hv', hb'⟩
      rw [HEN.out] at he hv'
      obtain ⟨Ao, co, rfl, _, _, hv'⟩ := Sl.open_ hv'
      exact ⟨Ao, co, he, SlI.from_ hv' hW.size, bthen hW hb', hb'⟩
    have HS : Hid (∀ W, Below wr.heap.size wr W → W.cell? ⟨w.heap.size, 0, none⟩ = some (.int .i64 n.places) ∧ W.cell? ⟨w.heap.size, 1, none⟩ = some (.slice At n.trans.length ct) ∧ W.cell? ⟨w.heap.size, 2, none⟩ = some (.int .i64 n.source) ∧ W.cell? ⟨w.heap.size, 3, none⟩ = some (.int .i64 n.sink) ∧ W.cell? ⟨gs, 0, none⟩ = some (.slice (some ⟨bs, os, none⟩) p.states.length cs) ∧ W.cell? ⟨bs, os + i, none⟩ = some (.slice Ams si.marks.length cms)) := fun W hW => ⟨(hBr.now hW).c4.1, (hBr.now hW).c4.2.1, (hBr.now hW).c4.2.2.1, (hBr.now hW).c4.2.2.2, (hI.bl.now hW).c3.1, (hW.cell (p := ⟨bs, _, none⟩) hDs).trans c0⟩
    have i1 : (0 : Int) ≤ (i : Int) := by omega
    have i2 : (i : Int) < (p.states.length : Int) := by omega
    clear q0 q1 q2 q3 c0 hBr hsm
    generalize hon : enB n si.marks = on at *
    have HON := Lib.hid hon
    clear hon
    go_upto_region 11 with fail
    clear p0 p1 p2
    have hbd : Below wr.heap.size wr wr.drew := (Below.refl _ _).drew
    obtain ⟨a0, a1, a2, a3, a4, d0⟩ := HS.out _ hbd
    go_region_held3 (fun W => W.cell? ⟨w.heap.size, 0, none⟩ = some (.int .i64 n.places) ∧ W.cell? ⟨w.heap.size, 1, none⟩ = some (.slice At n.trans.length ct) ∧ W.cell? ⟨w.heap.size, 2, none⟩ = some (.int .i64 n.source) ∧ W.cell? ⟨w.heap.size, 3, none⟩ = some (.int .i64 n.sink) ∧ W.cell? ⟨gs, 0, none⟩ = some (.slice (some ⟨bs, os, none⟩) p.states.length cs) ∧ W.cell? ⟨bs, os + i, none⟩ = some (.slice Ams si.marks.length cms)) (first | exact HS.out _ (by assumption))
      (first | (go_at_call 55; (with_reducible refine (HCE.out _ (by assumption)).mono ?_); rintro e w6 ⟨Ao, co, rfl, hon6, hb6, _⟩))
    clear a0 a1 a2 a3 a4 d0 hbd HCE HS i1 i2
    have hI6 := hI.now hb6
    have hbr6 := hbr.trans (hb6.mono hbr.size)
    have hof6 := on_new hI hon6
    have hlon : on.length ≤ 60 := by rw [← HON.out]; have := enTo_len n si.marks n.trans.length; unfold enB; omega
    clear hI hb6 hon6 hbr hbwr
    go_wp2_with fail
    obtain ⟨wo, hwo⟩ : ∃ z, z = w6 := ⟨_, rfl⟩
    subst hwo
    go_loopw [64] (fun tv wr => ∃ (j : Nat) (q : Sp) (sv mv : Value), tv = .int .i64 j ∧ j ≤ on.length ∧ SpI wr w2.heap.size gs w5.heap.size sv mv q ∧ DInv (plainD n) ⟨m, []⟩ mo q ∧ q.states[i]? = some si ∧ (exL (plainD n) mo i si (on.drop j) q).bind (fun q => exAll (plainD n) mo (mo + 1 - (i + 1)) (i + 1) q) = exFrom (plainD n) ⟨m, []⟩ mo ∧ SlI (Off (SpX w2.heap.size gs w5.heap.size mv) wr sv) wr (.slice Ao on.length co) on ∧ Below w2.heap.size w2 wr) (fun tv _ => on.length - (intOf tv).toNat)
    case atStart => exact ⟨0, p, _, _, rfl, Nat.zero_le _, hI6, HD.out, HSI.out, HROW.out, hof6, hbr6⟩
    case round =>
      obtain ⟨j, q, sv, mv, rfl, hj, hI, hD, hsi, hrow, hof, hbr⟩ := hrel
      have HD := Lib.hid hD
      have HSI := Lib.hid hsi
      have HROW := Lib.hid hrow
      clear hD hsi hrow HALL hI6 hof6 hbr6 hlt hle hi hDs
      obtain ⟨As, cs, rfl⟩ := hI.st.open_
      obtain ⟨Ax, cx, rfl⟩ := OwnM.form hI.mo
      have hle := HD.out.le
      have hlt : i < q.states.length := lt_of_get HSI.out
      by_cases hjt : j < on.length
      rotate_left
      · obtain rfl : j = on.length := by omega
        have HALL := Lib.hid (exL_end HROW.out)
        go_wp2_with fail
        go_roundw
        case rel => exact ⟨i + 1, q, _, _, by go_num, hI, HD.out, by omega, HALL.out, hbr⟩
        case measure => simp [intOf]; omega
      obtain ⟨bo, oo, z, rfl, hDo, hz, hfz, co0⟩ := hof.at_ hjt
      obtain ⟨t, rfl, htt, hcan⟩ := enB_at (by rw [HON.out]; exact hz)
      have HZT := Lib.hid hz
      have HP5 := Lib.hid (fireB_on htt hcan)
      clear hz hcan
      have hbwr := bthen hbw2 hbr
      have hBr := hB2.now hbr
      obtain ⟨bs, os, si', mvs, rfl, hDs, hsi', hsm, c0⟩ := SlRow.at_ (hI.st.sl RMk.kept) hlt
      obtain rfl : si = si' := by rw [HSI.out] at hsi'; injection hsi'
      clear hsi'
      obtain ⟨Ams, cms, rfl, _, _, hsm⟩ := hsm.open_
      have HCF : Hid (∀ W, Below wr.heap.size wr W → Calls Tryz.prog 47 #[.agg #[.int .i64 n.places, .slice At n.trans.length ct, .int .i64 n.source, .int .i64 n.sink], .slice Ams si.marks.length cms, .int .i64 t] W fun e w' => ∃ Am2 cm2, e = .returned (.tuple #[.slice Am2 (fireB n si.marks (t : Int)).1.length cm2, .int .i64 (fireB n si.marks (t : Int)).2]) ∧ SlI (Fr wr.heap.size w') w' (.slice Am2 (fireB n si.marks (t : Int)).1.length cm2) (fireB n si.marks (t : Int)).1 ∧ Below wr.heap.size wr w' ∧ Below W.heap.size W w') := fun W hW => by
        refine (firePF_any n _ _ si.marks t W ((h0.now hbwr).now hW) (hsm.now hW)).mono ?_
        rintro e w' ⟨v', he, hv', hb'⟩
        rw [fireE_ok HVB.out] at he hv'
        obtain ⟨Ao, co, rfl, _, _, hv'⟩ := Sl.open_ hv'
        exact ⟨Ao, co, he, SlI.from_ hv' hW.size, bthen hW hb', hb'⟩
      have HS : Hid (∀ W, Below wr.heap.size wr W → W.cell? ⟨w.heap.size, 0, none⟩ = some (.int .i64 n.places) ∧ W.cell? ⟨w.heap.size, 1, none⟩ = some (.slice At n.trans.length ct) ∧ W.cell? ⟨w.heap.size, 2, none⟩ = some (.int .i64 n.source) ∧ W.cell? ⟨w.heap.size, 3, none⟩ = some (.int .i64 n.sink) ∧ W.cell? ⟨gs, 0, none⟩ = some (.slice (some ⟨bs, os, none⟩) q.states.length cs) ∧ W.cell? ⟨bs, os + i, none⟩ = some (.slice Ams si.marks.length cms)) := fun W hW => ⟨(hBr.now hW).c4.1, (hBr.now hW).c4.2.1, (hBr.now hW).c4.2.2.1, (hBr.now hW).c4.2.2.2, (hI.bl.now hW).c3.1, (hW.cell (p := ⟨bs, _, none⟩) hDs).trans c0⟩
      have i1 : (0 : Int) ≤ (i : Int) := by omega
      have i2 : (i : Int) < (q.states.length : Int) := by omega
      have HF0' := Lib.hid (fun h => plain_fire0 (n := n) (s := si) (t := t) HSV.out htt h)
      have HF5' := Lib.hid (fun h => plain_fire5 (n := n) (s := si) (t := t) HSV.out htt h)
      clear c0 hBr hsm
      go_upto_region 15 with fail
      clear co0
      generalize hfd : fireB n si.marks (t : Int) = fd at *
      clear hfd
      obtain ⟨pm, pc⟩ := fd
      dsimp only at *
      have hbd : Below wr.heap.size wr wr.drew := (Below.refl _ _).drew
      obtain ⟨a0, a1, a2, a3, a4, d0⟩ := HS.out _ hbd
      go_region_held3 (fun W => W.cell? ⟨w.heap.size, 0, none⟩ = some (.int .i64 n.places) ∧ W.cell? ⟨w.heap.size, 1, none⟩ = some (.slice At n.trans.length ct) ∧ W.cell? ⟨w.heap.size, 2, none⟩ = some (.int .i64 n.source) ∧ W.cell? ⟨w.heap.size, 3, none⟩ = some (.int .i64 n.sink) ∧ W.cell? ⟨gs, 0, none⟩ = some (.slice (some ⟨bs, os, none⟩) q.states.length cs) ∧ W.cell? ⟨bs, os + i, none⟩ = some (.slice Ams si.marks.length cms)) (first | exact HS.out _ (by assumption))
        (first | (go_at_call 47; (with_reducible refine (HCF.out _ (by assumption)).mono ?_); rintro e w5' ⟨Am2, cm2, rfl, hm5, hb5, _⟩))
      clear a0 a1 a2 a3 a4 d0 hbd HCF HS i1 i2
      have hI5 := hI.now hb5
      have hof5 := on_now hof hb5
      have hbr5 := hbr.trans (hb5.mono hbr.size)
      have hszr5 := hbr5.size
      by_cases hpc : pc = 0
      rotate_left
      · have h5 : pc = 5 := by have := HP5.out; omega
        subst h5
        have hq := exT_five (n := n) (most := mo) (i := i) (p := q) (HF5'.out rfl)
        have HQ1 := Lib.hid (exL_some HZT.out hq HROW.out)
        have HQ2 := Lib.hid (exT_inv HV.out.1 HD.out HSI.out hq)
        have HC := Lib.hid (hI5.cut hszr5)
        have HO := Lib.hid (on_cut hof5 (.bool false) 2)
        have f2 := hI5.bl.frozen 2
        obtain ⟨p0, p1, p2⟩ := hI5.bl.c3
        clear hpc hq
        go_wp2_with fail
        go_roundw
        case rel => exact ⟨j + 1, ⟨q.states, q.moves, false⟩, _, _, by go_num, by omega, HC.out.1, HQ2.out.1, pre_get HQ2.out.2.st HSI.out, HQ1.out, HO.out, hbr5.trans HC.out.2⟩
        case measure => simp [intOf]; omega
      subst hpc
      have HFD := Lib.hid (HF0'.out rfl)
      have HF0 : Hid ((fireD (plainD n) si (t : Int)).2 = 0) := by show _ = _; rw [HFD.out]
      have HF1 : Hid ((fireD (plainD n) si (t : Int)).1 = ⟨pm, []⟩) := by show _ = _; rw [HFD.out]
      have HPS : Hid (stateB (plainD n) ⟨pm, []⟩ = true) := by
        show _ = _
        rw [← HF1.out]
        exact fire_state HV.out.1 HSO.out HF0.out
      have hpk : (pm.length : Int) = n.places ∧ Within 0 100 pm := markOk (n := n) (state_parts HPS.out).2.1
      have hnp := (validOk HVN.out).2.1
      have hpl : pm.length ≤ 1000 := by omega
      have HPL := Lib.hid hpk.2
      have hks := key2_size hpl
      have HK := Lib.hid (spKey_any pm _ _ hm5.weak HPL.out hpl)
      have HPI : Hid (posB (q.states.map fun s => key2 s.marks) (key2 pm) = idxS q.states ⟨pm, []⟩) := pos_idx2 HD.out.ok HPS.out
      clear HF0' HF5' HP5 hpk hnp
      go_wp2_with fail
      refine HK.out.mono ?_
      rintro e w6' ⟨rfl, hb6⟩
      have hI6 := hI5.now hb6
      have hof6 := on_now hof5 hb6
      have hm6 := hm5.nowF hb6
      have hbr6 := hbr5.trans (hb6.mono hbr5.size)
      obtain ⟨c, hlk, hc⟩ := hI6.mp.look hks
      have hpe : (⟨(key2 pm).toArray⟩ : ByteArray).data.toList = key2 pm := rfl
      rw [hpe, HPI.out] at hlk hc
      have HKP := Lib.hid hpe
      have hszr6 := hbr6.size
      have hqm := HD.out.mvl
      clear hpe HK hm5 hb6 hI5 hbr5 hof5 hszr5
      cases hx : idxS q.states ⟨pm, []⟩ with
      | some k =>
        rw [hx] at hlk hc
        obtain rfl := hc k rfl
        have HXF : Hid (idxS q.states (fireD (plainD n) si (t : Int)).1 = some k) := by show _ = _; rw [HF1.out]; exact hx
        generalize hkk : (⟨(key2 pm).toArray⟩ : ByteArray) = K' at *
        clear hx hc hkk
        dsimp only [Option.isSome] at hlk
        go_upto_region 25 with fail
        obtain ⟨p0, p1, p2⟩ := hI6.bl.c3
        go_upto_region 26 with (at_builtin; refine wpList_pushW (fc := cellsM) appMvs rfl (.tmp 111) (.tmp 116) rfl w6' ⟨i, k, t⟩ q.moves rfl (cellsM_one _) _ rfl hI6.mo rfl (by omega) hszr6 ?_; intro mv' w9 hmo9 hg9 hat9; obtain ⟨A9, c9, rfl⟩ := OwnM.form hmo9; obtain ⟨hB9, hI9, hb9⟩ := hI6.pushM hmo9 hg9 hat9 hszr6; have HO9 := Lib.hid (on_pushM hof6 hg9 hat9 (.slice A9 (q.moves ++ [(⟨i, k, t⟩ : Mv)]).length c9)); obtain ⟨b0, b1, b2⟩ := hB9.c3; have b1f := hB9.frozen 1)
        have hbr9 := hbr6.trans hb9
        clear b0 b1 b2 b1f p0 p1 p2 hmo9 hg9 hat9 hB9 hb9
        have hln : (q.moves ++ [(⟨i, k, t⟩ : Mv)]).length = q.moves.length + 1 := by simp
        rw [hln] at hI9 hbr9 HO9
        have hbw9 := bthen hbw2 hbr9
        generalize hwx : w9.setCell ⟨gs, 1, none⟩ (.slice A9 (q.moves.length + 1) c9) = wx at *
        clear hwx
        obtain ⟨p0, p1, p2⟩ := hI9.bl.c3
        by_cases hfull : q.moves.length < 20000
        · have hq := exT_met (n := plainD n) (most := mo) (i := i) HF0.out HXF.out hfull
          skip
          have HQ1 := Lib.hid (exL_some HZT.out hq HROW.out)
          have HQ2 := Lib.hid (exT_inv HV.out.1 HD.out HSI.out hq)
          clear hq
          go_wp2_with fail
          go_roundw
          case rel => exact ⟨j + 1, ⟨q.states, q.moves ++ [⟨i, k, t⟩], q.full⟩, _, _, by go_num, by omega, hI9, HQ2.out.1, pre_get HQ2.out.2.st HSI.out, HQ1.out, HO9.out, hbr9⟩
          case measure => simp [intOf]; omega
        · have hq := exT_met_full (n := plainD n) (most := mo) (i := i) HF0.out HXF.out hfull
          have HE := Lib.hid (HRN.out (exL_none HZT.out hq HROW.out))
          have hZr := hZ2.now hbr9
          clear hq
          obtain ⟨z0, z1, z2⟩ := hZr.c3
          have f0 := hZr.frozen 0
          have f1 := hZr.frozen 1
          have f2 := hZr.frozen 2
          go_wp2_with fail
          obtain ⟨r0, r1, r2⟩ := (hZr.set3 (.slice none 0 0) (.slice none 0 0) (.bool false)).c3
          refine bodyPost_ret (v := .tuple #[.agg #[.slice none 0 0, .slice none 0 0, .bool false], .int .i64 13]) (by simp [results, Tryz.results54, go_sem, r0, r1, r2]) rfl ?_
          rw [HE.out]
          exact ⟨_, _, rfl, Sl.none_, Sl.none_, bset3 hbw9 (by omega) _ _ _⟩
      | none =>
        rw [hx] at hlk
        have HXF : Hid (idxS q.states (fireD (plainD n) si (t : Int)).1 = none) := by show _ = _; rw [HF1.out]; exact hx
        have hkz := key2_size hpl
        have HPN : Hid (posB (q.states.map fun s => key2 s.marks) (⟨(key2 pm).toArray⟩ : ByteArray).data.toList = none) := by show _ = _; rw [HKP.out, HPI.out, hx]
        clear hx hc
        dsimp only [Option.isSome] at hlk
        obtain ⟨p0, p1, p2⟩ := hI6.bl.c3
        by_cases hmost : q.states.length < mo
        rotate_left
        · have hq := exT_cut (n := plainD n) (most := mo) (i := i) HF0.out HXF.out hmost
          have HQ1 := Lib.hid (exL_some HZT.out hq HROW.out)
          have HQ2 := Lib.hid (exT_inv HV.out.1 HD.out HSI.out hq)
          have HC := Lib.hid (hI6.cut hszr6)
          have HO := Lib.hid (on_cut hof6 (.bool false) 2)
          have f2 := hI6.bl.frozen 2
          have hmost' : (mo : Int) ≤ (q.states.length : Int) := by omega
          clear hq
          generalize (⟨(key2 pm).toArray⟩ : ByteArray) = K' at *
          go_wp2_with fail
          go_roundw
          case rel => exact ⟨j + 1, ⟨q.states, q.moves, false⟩, _, _, by go_num, by omega, HC.out.1, HQ2.out.1, pre_get HQ2.out.2.st HSI.out, HQ1.out, HO.out, hbr6.trans HC.out.2⟩
          case measure => simp [intOf]; omega
        have hmost' : ¬ (mo : Int) ≤ (q.states.length : Int) := by omega
        have HK := Lib.hid (spKey_any pm _ w6' hm6.weak HPL.out hpl)
        generalize hkk : (⟨(key2 pm).toArray⟩ : ByteArray) = K' at *
        clear hkk hks
        go_wp2_with fail
        refine HK.out.mono ?_
        rintro e w7 ⟨rfl, hb7⟩
        have hI7 := hI6.now hb7
        have hm7 := hm6.nowF hb7
        have hof7 := on_now hof6 hb7
        have hbr7 := hbr6.trans (hb7.mono hbr6.size)
        have hszr7 := hbr7.size
        obtain ⟨w8, hrun8, hp8, hg8⟩ := hI7.mp.put (z := q.states.length) hkz (by unfold maxLen; have := HD.out.le; omega) (by rw [List.length_map]; have := HD.out.le; omega) HPN.out (by rw [List.length_map])
        rw [HKP.out] at hp8
        clear HK hlk p0 p1 p2 hm6 hb7 hI6 hbr6 hof6
        go_upto_region 24 with fail
        clear hrun8
        obtain ⟨hst8, hmo8, hB8, hb78⟩ := hI7.putS hg8 hszr7
        have hof8 := on_put hof7 hg8
        have hgm : w5.heap.size < wr.heap.size := hI.mp.lt
        have hm8 := hm7.grownF hg8 (fun g hg => by injection hg with hg; subst hg; exact hgm)
        have hoff := hI.off (s := ⟨pm, []⟩) hm8
        have hszr8 := hb78.size
        have hbr8 := hbr7.trans hb78
        have hszr8' := hbr8.size
        have hqs := HD.out.le
        obtain ⟨p0, p1, p2⟩ := hB8.c3
        go_upto_region 25 with (at_builtin; refine wpList_pushR (X := _) appRows RMk.kept rfl (.tmp 105) (.tmp 107) rfl w8 [.slice Am2 pm.length cm2] rfl (by simp [Value.oneCell']) _ q.states ⟨pm, []⟩ rfl hst8 hoff rfl (by omega) hszr8' ?_; intro sv7 w9 hst9 hg9 hat9; obtain ⟨A8, c8, rfl⟩ := hst9.open_; obtain ⟨hB9, hI9, hb9⟩ := SpI.pushS hst8 hmo8 hp8 hB8 hI7.lo hI7.lo2 hst9 hg9 hszr8'; have hof9 := on_pushS hof8 hg9 hat9 (.slice A8 (q.states ++ [(⟨pm, []⟩ : St)]).length c8); obtain ⟨b0, b1, b2⟩ := hB9.c3; have b0f := hB9.frozen 0)
        have hln9 : (q.states ++ [(⟨pm, []⟩ : St)]).length = q.states.length + 1 := by simp
        rw [hln9] at hI9 hof9 hb9
        have hbr9' := hbr8.trans hb9
        have hszr9' := hbr9'.size
        clear b0 b1 b2 b0f p0 p1 p2 hm7 hm8 hoff hst8 hmo8 hB8 hp8 hg8 hst9 hg9 hat9 hb78 hb9 hI7 hI hB9 hof7 hof8
        generalize w9.setCell ⟨gs, 0, none⟩ (.slice A8 (q.states.length + 1) c8) = w10 at *
        have hI10 := hI9
        clear hI9
        go_upto_region 25 with fail
        obtain ⟨p0, p1, p2⟩ := hI10.bl.c3
        go_upto_region 26 with (at_builtin; refine wpList_pushW (fc := cellsM) appMvs rfl (.tmp 111) (.tmp 116) rfl w10 ⟨i, q.states.length, t⟩ q.moves rfl (cellsM_one _) _ rfl hI10.mo rfl (by omega) hszr9' ?_; intro mv' w9 hmo9 hg9 hat9; obtain ⟨A9, c9, rfl⟩ := OwnM.form hmo9; obtain ⟨hB9, hI9, hb9⟩ := hI10.pushM hmo9 hg9 hat9 hszr9'; have HO9 := Lib.hid (on_pushM hof9 hg9 hat9 (.slice A9 (q.moves ++ [(⟨i, q.states.length, t⟩ : Mv)]).length c9)); obtain ⟨b0, b1, b2⟩ := hB9.c3; have b1f := hB9.frozen 1)
        have hbr9 := hbr9'.trans hb9
        clear b0 b1 b2 b1f p0 p1 p2 hmo9 hg9 hat9 hB9 hb9
        have hln : (q.moves ++ [(⟨i, q.states.length, t⟩ : Mv)]).length = q.moves.length + 1 := by simp
        rw [hln] at hI9 hbr9 HO9
        have hbw9 := bthen hbw2 hbr9
        generalize hwx : w9.setCell ⟨gs, 1, none⟩ (.slice A9 (q.moves.length + 1) c9) = wx at *
        clear hwx
        obtain ⟨p0, p1, p2⟩ := hI9.bl.c3
        by_cases hfull : q.moves.length < 20000
        · have hq := exT_new (n := plainD n) (most := mo) (i := i) HF0.out HXF.out hmost hfull
          rw [HF1.out] at hq
          have HQ1 := Lib.hid (exL_some HZT.out hq HROW.out)
          have HQ2 := Lib.hid (exT_inv HV.out.1 HD.out HSI.out hq)
          clear hq
          go_wp2_with fail
          go_roundw
          case rel => exact ⟨j + 1, ⟨q.states ++ [⟨pm, []⟩], q.moves ++ [⟨i, q.states.length, t⟩], q.full⟩, _, _, by go_num, by omega, hI9, HQ2.out.1, pre_get HQ2.out.2.st HSI.out, HQ1.out, HO9.out, hbr9⟩
          case measure => simp [intOf]; omega
        · have hq := exT_new_full (n := plainD n) (most := mo) (i := i) HF0.out HXF.out hmost hfull
          have HE := Lib.hid (HRN.out (exL_none HZT.out hq HROW.out))
          have hZr := hZ2.now hbr9
          clear hq
          obtain ⟨z0, z1, z2⟩ := hZr.c3
          have f0 := hZr.frozen 0
          have f1 := hZr.frozen 1
          have f2 := hZr.frozen 2
          go_wp2_with fail
          obtain ⟨r0, r1, r2⟩ := (hZr.set3 (.slice none 0 0) (.slice none 0 0) (.bool false)).c3
          refine bodyPost_ret (v := .tuple #[.agg #[.slice none 0 0, .slice none 0 0, .bool false], .int .i64 13]) (by simp [results, Tryz.results54, go_sem, r0, r1, r2]) rfl ?_
          rw [HE.out]
          exact ⟨_, _, rfl, Sl.none_, Sl.none_, bset3 hbw9 (by omega) _ _ _⟩
end Go.Proofs.YtlmenhjlgmejkaaGreatDoor
