/- The sort of a row of entries by their words. -/
import Derived.Test.YtilmdlkfmkbfmaaPvOrd
import Derived.Test.YtilmdlkfmkbfmaaPvSup0
set_option linter.all false
namespace Go.Proofs.Ytilmdlkfmkbfmaa
open Go.RowKit

theorem flatK_eq {α β : Type} [Inhabited α] {k : Nat} (enc : α → List Value) (fc : β → List Value) (val : α → β) (he : ∀ x, enc x = fc (val x)) (hk : ∀ x, (enc x).length = k) (d : Array α) : (Go.Sort.flatK enc k d).toList = flat fc (d.toList.map val) := by
  have hfe : flat fc (d.toList.map val) = flat enc d.toList := by
    unfold flat
    rw [List.flatMap_map]
    congr 1
    funext x; exact (he x).symm
  rw [hfe]
  have hl : (flat enc d.toList).length = d.size * k := by rw [flat_len hk, Array.length_toList]
  apply List.ext_getElem
  · rw [Array.length_toList, Go.Sort.size_flatK, hl]
  · intro i h1 h2
    have hi : i < d.size * k := by rw [← hl]; exact h2
    have hk0 : 0 < k := by
      rcases Nat.eq_zero_or_pos k with h | h
      · rw [h] at hi; omega
      · exact h
    have h3 := Go.Sort.get_flatK enc k d i hi
    have h1' : i < (Go.Sort.flatK enc k d).size := by simpa using h1
    rw [getElem!_pos _ i h1'] at h3
    have hid : i / k < d.size := Nat.div_lt_of_lt_mul (by rw [Nat.mul_comm]; exact hi)
    have him : i % k < k := Nat.mod_lt _ hk0
    rw [getElem!_pos d (i / k) hid, getElem!_pos _ (i % k) (by rw [hk]; exact him)] at h3
    have h4 := flat_get hk d.toList (i / k) (i % k) d[i / k] (by rw [Array.getElem?_toList, Array.getElem?_eq_getElem hid]) him
    have e : i / k * k + i % k = i := by rw [Nat.mul_comm]; exact Nat.div_add_mod i k
    rw [e, List.getElem?_eq_getElem h2, List.getElem?_eq_getElem (by rw [hk]; exact him)] at h4
    injection h4 with h4
    rw [Array.getElem_toList, h3, h4]
theorem grown_sorted {α : Type} [Inhabited α] (enc : α → List Value) (k : Nat) (w : World) (g n : Nat) (d : Array α) (os : Array Obj) : w.grownBy (Go.Proofs.sortWorldK enc k w g 0 n d os) (some g) := by
  refine ⟨rfl, rfl, rfl, by simp [Go.Proofs.sortWorldK, Go.Sort.putRowK], fun j hj hne => ?_⟩
  unfold Go.Proofs.sortWorldK Go.Sort.putRowK
  rw [Go.Sort.heap_grow_old _ _ (by simpa using hj)]
  have : g ≠ j := fun e => hne (by rw [e])
  simp [Go.Sort.putRow, Go.Sort.mapBlock, Go.Sort.ahead, Array.getElem?_modify, this]
theorem heap_sortedK {α : Type} [Inhabited α] (enc : α → List Value) (k : Nat) (w : World) (g n : Nat) (d : Array α) (os : Array Obj) {cur : Array Value} {e : TypeId} {fr : Nat × Nat} (hb : w.heap[g]? = some (.cells cur e fr)) :
    (Go.Proofs.sortWorldK enc k w g 0 n d os).heap[g]? = some (.cells (Go.Sort.putCells id 0 (Go.Sort.flatK enc k d) cur) e fr) := by
  have hg : g < w.heap.size := (Array.getElem?_eq_some_iff.1 hb).1
  unfold Go.Proofs.sortWorldK Go.Sort.putRowK
  rw [Go.Sort.heap_grow_old _ _ (by simpa using hg)]
  simp [Go.Sort.putRow, Go.Sort.mapBlock, Go.Sort.ahead, Array.getElem?_modify, hb, Go.Sort.onCells]
theorem take_put (cur F : Array Value) (h : F.size ≤ cur.size) : (Go.Sort.putCells id 0 F cur).toList.take F.size = F.toList := by
  apply List.ext_getElem?
  intro j
  by_cases hj : j < F.size
  · rw [List.getElem?_take_of_lt hj, Array.getElem?_toList]
    simp [Go.Sort.putCells, hj, show j < cur.size by omega]
  · rw [List.getElem?_take_eq_none (by omega), List.getElem?_eq_none (by simp; omega)]
/-- The closure that compares two entries. -/
theorem pubCmp_any (x y : Vr) (u v : Value) (W : World) (hu : SlS (Lt W.heap.size) W u x.acts) (hv : SlS (Lt W.heap.size) W v y.acts) :
    Calls Try.prog 45 #[.agg #[u, .int .i64 x.n], .agg #[v, .int .i64 y.n]] W fun e w' => e = .returned (.int .i64 (cmpW x.acts y.acts)) ∧ ∃ q os', w' = Go.Sort.grow (W.drewN q) os' := by
  have hb1 := bone W (.cells #[u, .int .i64 x.n] 62)
  have hb2 := bone (W.alloc (.cells #[u, .int .i64 x.n] 62)) (.cells #[v, .int .i64 y.n] 62)
  have hb12 := hb1.trans (hb2.mono hb1.size)
  have HC := Lib.hid (nameCompare_any u v x.acts y.acts _ (Sl.below hu RStr.kept hb12 hb12.size) (Sl.below hv RStr.kept hb12 hb12.size))
  obtain ⟨t0, t1⟩ := ((Blk.new W 62 #[u, .int .i64 x.n]).now hb2).c2
  obtain ⟨s0, s1⟩ := (Blk.new (W.alloc (.cells #[u, .int .i64 x.n] 62)) 62 #[v, .int .i64 y.n]).c2
  obtain ⟨A, c, rfl, _, _, _⟩ := hu.open_
  obtain ⟨B, d, rfl, _, _, _⟩ := hv.open_
  have hsz1 : (W.alloc (.cells #[.slice A x.acts.length c, .int .i64 x.n] 62)).heap.size = W.heap.size + 1 := by simp
  rw [hsz1] at s0 s1
  have HG : Hid (∃ q os', (W.alloc (.cells #[.slice A x.acts.length c, .int .i64 x.n] 62)).alloc (.cells #[.slice B y.acts.length d, .int .i64 y.n] 62) = Go.Sort.grow (W.drewN q) os') := Lib.hid ⟨0, _, by rw [Go.Sort.alloc_eq_grow, Go.Sort.alloc_eq_grow, Go.Sort.grow_grow]; rfl⟩
  clear hu hv hb1 hb2 hb12 hsz1
  go_enter Try.func45, Try.ntmps45
  go_upto_region 1 with fail
  obtain ⟨w2, hw2⟩ : ∃ w2, (W.alloc (.cells #[.slice A x.acts.length c, .int .i64 x.n] 62)).alloc (.cells #[.slice B y.acts.length d, .int .i64 y.n] 62) = w2 := ⟨_, rfl⟩
  rw [hw2] at HC HG t0 t1 s0 s1 ⊢
  clear hw2
  go_wp2_with fail
  (with_reducible refine HC.out.mono ?_)
  rintro e w' ⟨rfl, rfl⟩
  go_wp2_with fail
  go_ret
  exact ⟨rfl, HG.out⟩
theorem enters_pubCmp : ∀ args w, (callFunc 45 args).run Try.prog w = .ok (.enter 45 args) w := enters_of Try.func45 (by kernel_rfl) rfl
theorem cellV_one {D : Nat → Prop} {w : World} {p : PrV} (h : SlS D w p.2 p.1.acts) : ∀ v ∈ cellV p, v.oneCell' = true := fun v hv => by
  simp [cellV] at hv
  rcases hv with rfl | rfl
  · exact SlS.one h
  · rfl
/-- The row sorted. -/
theorem sortV_any {w : World} {B0 base : Nat} {v : Value} {xs : List Vr} (ho : OwnV 62 w base (Lt B0) v xs) (hB : B0 ≤ base) (hBw : B0 ≤ w.heap.size) (hn : (xs.map (·.acts)).Nodup) (hl : xs.length ≤ 1000000) :
    Calls Try.prog 44 #[v, .func (.func 45) #[] #[]] w fun e w' => e = .returned (.tuple #[]) ∧ ∃ ys, ys.Perm xs ∧ Ord ys ∧ OwnV 62 w' base (Lt B0) v ys ∧ w.grownBy w' v.ownBlock := by
  obtain ⟨ps, hps, hown, hel⟩ := ho
  have hlen : ps.length = xs.length := by rw [← hps, List.length_map]
  rcases Nat.eq_zero_or_pos xs.length with h0 | h0
  · have hx : xs = [] := List.eq_nil_of_length_eq_zero h0
    have hp : ps = [] := List.eq_nil_of_length_eq_zero (by omega)
    subst hx hp
    obtain ⟨A, c, rfl⟩ := OwnV.isSlice ⟨[], rfl, hown, hel⟩
    have h := Go.Proofs.AnyF.slices_SortFunc_none Try.sortE A c (.func (.func 45) #[] #[]) w
    refine Calls.mono (show Calls Try.prog 44 _ _ _ from h) fun e w' ⟨he, hw⟩ => ⟨he, [], List.Perm.refl _, List.Pairwise.nil, ?_, ?_⟩
    · rw [hw]; exact ⟨[], rfl, hown, hel⟩
    · rw [hw]; exact World.grownBy.refl w _
  · rcases hown.2 with ⟨_, h1⟩ | ⟨g, cap, cur, rfl, hb, hg, hc1, hc2, hc3, htk⟩
    · omega
    have hgl : g < w.heap.size := (Array.getElem?_eq_some_iff.1 hg).1
    have hsub : ∀ p ∈ ps, Fit p.1.n ∧ SlS (Lt B0) w p.2 p.1.acts := hel
    obtain ⟨dl, hdl⟩ : ∃ dl : List (SubV B0 w), dl.map (fun x => x.val) = ps := ⟨ps.attach.map fun p => ⟨p.val, hsub p.val p.property⟩, by rw [List.map_map]; exact List.attach_map_subtype_val ps⟩
    have hdn : dl.length = xs.length := by rw [← hlen, ← hdl, List.length_map]
    haveI : Inhabited (SubV B0 w) := ⟨dl[0]'(by omega)⟩
    have hval : (dl.map fun x => x.val.1) = xs := by rw [← hps, ← hdl, List.map_map]; rfl
    have hF : (Go.Sort.flatK encSub 2 dl.toArray).toList = flat cellV ps := by
      rw [flatK_eq (k := 2) encSub cellV (fun x : SubV B0 w => x.val) (fun _ => rfl) (fun _ => rfl)]
      simp only
      rw [hdl]
    have hH : Go.Sort.HoldsK encSub 2 w g 0 dl.toArray := by
      intro j hj
      have hfl : (flat cellV ps).length = xs.length * 2 := by rw [flat_len (size := 2) (fun _ => rfl), hlen]
      have hjs : j < xs.length * 2 := by rw [← hfl, ← hF, Array.length_toList]; exact hj
      refine ⟨?_, by simp [World.frozen?, hg]⟩
      have h1 : (cur.toList.take (ps.length * 2))[j]? = (flat cellV ps)[j]? := by rw [htk]
      rw [List.getElem?_take_of_lt (by omega), ← hF] at h1
      simp only [World.cell?, hg, Nat.zero_add, Option.isSome_none, Bool.false_eq_true, if_false]
      rw [← Array.getElem?_toList, h1, Array.getElem?_toList, Array.getElem?_eq_getElem hj, getElem!_pos _ j hj]; rfl
    have hcmp : Go.Proofs.CmpLays Try.prog 45 #[] encSub 2 (fun x y : SubV B0 w => cmpW x.val.1.acts y.val.1.acts) g 0 dl.toArray.size w := fun m os dk hdk x y => by
      have hgr := grown_sorted encSub 2 w g m dk os
      have hsame : Same (Lt B0) w (Go.Proofs.sortWorldK encSub 2 w g 0 m dk os) := fun b hb' => hgr.block b (Nat.lt_of_lt_of_le hb' hBw) (fun e => by injection e with e; have hb' : b < B0 := hb'; omega)
      exact pubCmp_any x.val.1 y.val.1 x.val.2 y.val.2 _ (Sl.keep x.property.2 RStr.kept (fun b hb' => Nat.lt_of_lt_of_le (Nat.lt_of_lt_of_le hb' hBw) hgr.size) hsame) (Sl.keep y.property.2 RStr.kept (fun b hb' => Nat.lt_of_lt_of_le (Nat.lt_of_lt_of_le hb' hBw) hgr.size) hsame)
    have h := Go.Proofs.AnyQ.slices_SortFunc Try.sortE 2 Try.isAgg62 Try.sizeOf62 encSub (fun _ => rfl) (fun x => cellV_one x.property.2) (fun x y : SubV B0 w => cmpW x.val.1.acts y.val.1.acts) (swoW fun x : SubV B0 w => x.val.1.acts) 45 #[] g 0 cap dl.toArray w enters_pubCmp hcmp hH hgl (by show dl.length < _; omega)
    have hsz : dl.toArray.size = ps.length := by show dl.length = _; omega
    rw [hsz] at h
    refine Calls.mono (show Calls Try.prog 44 #[.slice (some ⟨g, 0, none⟩) ps.length cap, .func (.func 45) #[] #[]] w _ from h) fun e w' ⟨he, d', n, os, hp, hs, hw⟩ => ?_
    rw [← hsz] at hp hs
    obtain ⟨k1, k2⟩ := sorted_list (d := dl.toArray) (d' := d') (by
      have : (dl.toArray.toList.map fun x => x.val.1.acts) = xs.map (·.acts) := by rw [← hval, List.map_map]; rfl
      rw [this]; exact hn) hp hs
    have hgr : w.grownBy w' (some g) := by rw [hw]; exact grown_sorted encSub 2 w g n d' os
    have hsame : Same (Lt B0) w w' := fun b hb' => hgr.block b (Nat.lt_of_lt_of_le hb' hBw) (fun e => by injection e with e; have hb' : b < B0 := hb'; omega)
    have hd' : d'.size = ps.length := by rw [hp.1, hsz]
    have hdl' : (d'.toList.map (fun x => x.val)).length = ps.length := by rw [List.length_map]; exact Array.length_toList.trans hd'
    refine ⟨he, d'.toList.map (fun x => x.val.1), ?_, k2, ⟨d'.toList.map (fun x => x.val), by rw [List.map_map]; rfl, ⟨?_, .inr ⟨g, cap, _, by rw [hdl'], hb, by rw [hw]; exact heap_sortedK encSub 2 w g n d' os hg, by rw [hdl']; exact hc1, hc2, by simp [Go.Sort.putCells, hc3], ?_⟩⟩, fun p hp' => ?_⟩, hgr⟩
    · have e : dl.toArray.toList.map (fun x => x.val.1) = xs := hval
      rw [e] at k1; exact k1
    · rw [flat_len (size := 2) (fun _ => rfl)]
    · have e1 : (d'.toList.map (fun x => x.val)).length * 2 = (Go.Sort.flatK encSub 2 d').size := by rw [List.length_map, Array.length_toList, Go.Sort.size_flatK]
      rw [e1, take_put cur _ (by rw [Go.Sort.size_flatK, hc3, hd']; omega), flatK_eq (k := 2) encSub cellV (fun x : SubV B0 w => x.val) (fun _ => rfl) (fun _ => rfl)]
    · obtain ⟨x, _, rfl⟩ := List.mem_map.1 hp'
      exact ⟨x.property.1, Sl.keep x.property.2 RStr.kept (fun _ => id) hsame⟩
end Go.Proofs.Ytilmdlkfmkbfmaa
