/- The fields of a line: plain laws, and casebookref21.fields and strings.Split as lists of parts. -/
import Derived.Test.YtlkkfkkhllijbaaGreatDoorPtNumR
import Derived.Test.YtlkkfkkhllijbaaGreatDoorRun
namespace Go.Proofs.YtlkkfkkhllijbaaGreatDoor
open Go.RowKit

def bsOf (l : List UInt8) : ByteArray := ⟨l.toArray⟩
theorem bs_list (l : List UInt8) : (bsOf l).data.toList = l := rfl
theorem bs_size (l : List UInt8) : (bsOf l).size = l.length := size_mk l
theorem ext_list (s : ByteArray) (a b : Nat) : (s.extract a b).data.toList = (s.data.toList.drop a).take (b - a) := by
  rw [ByteArray.data_extract, Array.toList_extract, List.extract_eq_take_drop]
theorem ext_bs (s : ByteArray) (a b : Nat) : s.extract a b = bsOf ((s.data.toList.drop a).take (b - a)) := list_eq (ext_list s a b)
/-- How far a line has been cut: at byte k, the part that is open begins at j. -/
def FldR (c : UInt8) (L : List UInt8) (k j : Nat) (outs : List (List UInt8)) : Prop :=
  outs.length ≤ k ∧ ((k ≤ L.length ∧ j ≤ k ∧ outs ++ partsB c (L.drop j) = partsB c L ∧ ∀ b ∈ (L.drop j).take (k - j), b ≠ c) ∨ (k = L.length + 1 ∧ outs = partsB c L))
theorem fld_start (c : UInt8) (L : List UInt8) : FldR c L 0 0 [] := ⟨Nat.le_refl _, .inl ⟨Nat.zero_le _, Nat.le_refl _, rfl, fun b hb => by simp at hb⟩⟩
theorem drop_split {L : List UInt8} {k j : Nat} {b : UInt8} (hb : L[k]? = some b) (hj : j ≤ k) : L.drop j = (L.drop j).take (k - j) ++ b :: L.drop (k + 1) := by
  have hk : k < L.length := (List.getElem?_eq_some_iff.1 hb).1
  have e1 : (L.drop j).drop (k - j) = b :: L.drop (k + 1) := by
    rw [List.drop_drop, show j + (k - j) = k by omega, List.drop_eq_getElem_cons hk]
    rw [List.getElem?_eq_getElem hk] at hb
    injection hb with hb
    rw [hb]
  rw [← e1, List.take_append_drop]
theorem fld_skip {c b : UInt8} {L : List UInt8} {k j : Nat} {outs : List (List UInt8)} (h : FldR c L k j outs) (hb : L[k]? = some b) (hc : b ≠ c) : FldR c L (k + 1) j outs := by
  have hk : k < L.length := (List.getElem?_eq_some_iff.1 hb).1
  obtain ⟨hl, ⟨_, h2, h3, h4⟩ | ⟨h1, _⟩⟩ := h
  · refine ⟨by omega, .inl ⟨by omega, by omega, h3, fun x hx => ?_⟩⟩
    rw [drop_split hb h2, show k + 1 - j = (k - j) + 1 by omega, List.take_append, List.length_take, List.length_drop, List.take_take] at hx
    rw [show min (k - j) (L.length - j) = k - j by omega, Nat.min_eq_right (by omega), show k - j + 1 - (k - j) = 1 by omega] at hx
    rcases List.mem_append.1 hx with hx | hx
    · exact h4 x hx
    · rw [List.take_succ_cons, List.take_zero, List.mem_singleton] at hx
      rw [hx]; exact hc
  · omega
theorem fld_hit {c : UInt8} {L : List UInt8} {k j : Nat} {outs : List (List UInt8)} (h : FldR c L k j outs) (hb : L[k]? = some c) : j ≤ k ∧ FldR c L (k + 1) (k + 1) (outs ++ [(L.drop j).take (k - j)]) := by
  have hk : k < L.length := (List.getElem?_eq_some_iff.1 hb).1
  obtain ⟨hl, ⟨_, h2, h3, h4⟩ | ⟨h1, _⟩⟩ := h
  · refine ⟨h2, by rw [List.length_append]; simp only [List.length_singleton]; omega, .inl ⟨by omega, Nat.le_refl _, ?_, fun x hx => by rw [Nat.sub_self, List.take_zero] at hx; cases hx⟩⟩
    rw [← h3, List.append_assoc]
    congr 1
    rw [drop_split hb h2] at ⊢
    have e := parts_app (c := c) h4 (L.drop (k + 1))
    rw [e]
    have hlen : ((L.drop j).take (k - j)).length = k - j := by rw [List.length_take, List.length_drop]; omega
    rw [List.take_append_of_le_length (by omega), List.take_take, Nat.min_self]; rfl
  · omega
theorem fld_last {c : UInt8} {L : List UInt8} {j : Nat} {outs : List (List UInt8)} (h : FldR c L L.length j outs) : j ≤ L.length ∧ FldR c L (L.length + 1) (L.length + 1) (outs ++ [(L.drop j).take (L.length - j)]) := by
  obtain ⟨hl, ⟨_, h2, h3, h4⟩ | ⟨h1, _⟩⟩ := h
  · refine ⟨h2, by rw [List.length_append]; simp only [List.length_singleton]; omega, .inr ⟨rfl, ?_⟩⟩
    have e : (L.drop j).take (L.length - j) = L.drop j := List.take_of_length_le (by rw [List.length_drop]; exact Nat.le_refl _)
    rw [e] at h4 ⊢
    rw [← h3, parts_one h4]
  · omega
theorem fld_end {c : UInt8} {L : List UInt8} {k j : Nat} {outs : List (List UInt8)} (h : FldR c L k j outs) (hk : L.length < k) : outs = partsB c L := by
  obtain ⟨_, ⟨h1, _⟩ | ⟨_, h2⟩⟩ := h
  · omega
  · exact h2
theorem parts_len (c : UInt8) : ∀ (L : List UInt8), (partsB c L).length ≤ L.length + 1 ∧ ∀ p ∈ partsB c L, p.length ≤ L.length
  | [] => ⟨by simp [partsB], fun p hp => by rw [partsB, List.mem_singleton] at hp; rw [hp]; exact Nat.le_refl _⟩
  | b :: l => by
    obtain ⟨h1, h2⟩ := parts_len c l
    unfold partsB
    split
    · refine ⟨by simp only [List.length_cons]; omega, fun p hp => ?_⟩
      rcases List.mem_cons.1 hp with rfl | hp
      · exact Nat.zero_le _
      · have := h2 p hp; rw [List.length_cons]; omega
    · split
      · rename_i e; obtain ⟨q, qs, hq⟩ := parts_ne c l; rw [hq] at e; cases e
      · rename_i q qs e
        rw [e] at h1 h2
        refine ⟨by simp only [List.length_cons] at *; omega, fun p hp => ?_⟩
        rcases List.mem_cons.1 hp with rfl | hp
        · have := h2 q (by simp); simp only [List.length_cons]; omega
        · have := h2 p (by simp [hp]); rw [List.length_cons]; omega
def SlP (D : Nat → Prop) (w : World) (v : Value) (ls : List (List UInt8)) : Prop := SlS D w v (ls.map bsOf)
def RetSlP (ls : List (List UInt8)) (w : World) (e : Ending) (w' : World) : Prop := ∃ v, e = .returned v ∧ SlP (Lt w'.heap.size) w' v ls ∧ Below w.heap.size w w'
theorem SlP.now {w w' : World} {v : Value} {ls : List (List UInt8)} (h : SlP (Lt w.heap.size) w v ls) (hb : Below w.heap.size w w') : SlP (Lt w'.heap.size) w' v ls := SlS.below h hb hb.size
theorem SlP.open_ {D : Nat → Prop} {w : World} {v : Value} {ls : List (List UInt8)} (h : SlP D w v ls) : ∃ A c, v = .slice A ls.length c ∧ ls.length ≤ c ∧ c ≤ 9223372036854775807 ∧ SlP D w (.slice A ls.length c) ls := by
  have := SlS.open_ h
  rw [List.length_map] at this
  exact this
theorem SlP.at_ {D : Nat → Prop} {w : World} {ls : List (List UInt8)} {A : Option Addr} {n c k : Nat} (h : SlP D w (.slice A n c) ls) (hk : k < n) :
    ∃ b o l, A = some ⟨b, o, none⟩ ∧ D b ∧ ls[k]? = some l ∧ l.length ≤ maxLen ∧ w.cell? ⟨b, o + k, none⟩ = some (.string (bsOf l)) := by
  obtain ⟨b, o, s, hA, hD, hx, hm, hc⟩ := SlS.at_ h hk
  rw [List.getElem?_map] at hx
  cases hl : ls[k]? with
  | none => rw [hl] at hx; cases hx
  | some l =>
    rw [hl] at hx
    injection hx with hx
    subst hx
    exact ⟨b, o, l, hA, hD, rfl, by rw [bs_size] at hm; exact hm, hc⟩
theorem split_list (c : UInt8) (s : ByteArray) : (Lib.splitB ⟨#[c]⟩ 0 (Lib.countB s ⟨#[c]⟩) s) = (partsB c s.data.toList).map bsOf := by
  have h := Lib.splitB_data ⟨#[c]⟩ 0 (Lib.countB s ⟨#[c]⟩) s
  have e : (Lib.splitB ⟨#[c]⟩ 0 (Lib.countB s ⟨#[c]⟩) s).map (fun x => x.data.toList) = partsB c s.data.toList := by
    rw [← split_parts c _ s.data.toList (Nat.le_refl _)]
    exact h
  rw [← e, List.map_map]
  conv => lhs; rw [← List.map_id (Lib.splitB ⟨#[c]⟩ 0 (Lib.countB s ⟨#[c]⟩) s)]
  exact List.map_congr_left fun x _ => (list_eq rfl : x = bsOf x.data.toList)

theorem byte32 (b : UInt8) : ((b.toNat : Int) == 32) = decide (b = 32) := byte_eq (b := 32)
theorem own_slP {w : World} {base t : Nat} {v : Value} {ls : List (List UInt8)} (h : w.ownsRow base t 1 v ls.length (ls.map fun l => Value.string (bsOf l))) (hf : ∀ l ∈ ls, l.length ≤ maxLen) : SlP (Lt w.heap.size) w v ls := by
  have e : (ls.map fun l => Value.string (bsOf l)) = (ls.map bsOf).map Value.string := by rw [List.map_map]; rfl
  rw [e] at h
  refine SlS.of_own h fun s hs => ?_
  obtain ⟨l, hl, rfl⟩ := List.mem_map.1 hs
  rw [bs_size]; exact hf l hl

set_option maxHeartbeats 1000000 in
theorem fields_ref (s : ByteArray) (w : World) (hs : s.size ≤ 1000000) : Calls Tryz.prog 48 #[.string s] w (RetSlP (partsB 32 s.data.toList) w) := by
  have HSK : Hid (∀ (k j : Nat) (hk : k < s.size) outs, FldR 32 s.data.toList k j outs → s[k] ≠ 32 → FldR 32 s.data.toList (k + 1) j outs) := fun k j hk outs h hb => fld_skip h (at_list hk) hb
  have HHT : Hid (∀ (k j : Nat) (hk : k < s.size) outs, FldR 32 s.data.toList k j outs → s[k] = 32 → j ≤ k ∧ FldR 32 s.data.toList (k + 1) (k + 1) (outs ++ [(s.data.toList.drop j).take (k - j)])) := fun k j hk outs h hb => fld_hit h (by rw [at_list hk, hb])
  have HLS : Hid (∀ (j : Nat) outs, FldR 32 s.data.toList s.size j outs → j ≤ s.size ∧ FldR 32 s.data.toList (s.size + 1) (s.size + 1) (outs ++ [(s.data.toList.drop j).take (s.size - j)])) := fun j outs h => by
    have := fld_last (c := 32) (L := s.data.toList) (j := j) (outs := outs) (by rw [size_list]; exact h)
    rw [size_list] at this
    exact this
  have HEN : Hid (∀ (k j : Nat) outs, FldR 32 s.data.toList k j outs → s.size < k → outs = partsB 32 s.data.toList) := fun k j outs h hk => fld_end h (by rw [size_list]; exact hk)
  have HX : Hid (∀ a b, s.extract a b = bsOf ((s.data.toList.drop a).take (b - a))) := fun a b => ext_bs s a b
  have HPL : Hid (∀ p ∈ partsB 32 s.data.toList, p.length ≤ maxLen) := fun p hp => by
    have := (parts_len 32 s.data.toList).2 p hp
    rw [size_list] at this
    unfold maxLen; omega
  go_enter Tryz.func48, Tryz.ntmps48
  go_wp2_with fail
  go_loopw [3, 4, 5] (fun ov jv kv wr => ∃ (k j : Nat) (outs : List (List UInt8)), k ≤ s.size + 1 ∧ j ≤ 9223372036854775807 ∧ kv = .int .i64 k ∧ jv = .int .i64 j ∧ Hid (FldR 32 s.data.toList k j outs) ∧ outs.length ≤ k ∧ wr.ownsRow w.heap.size 9 1 ov outs.length (outs.map fun l => Value.string (bsOf l)) ∧ Below w.heap.size w wr) (fun _ _ kv _ => s.size + 1 - (intOf kv).toNat)
  case atStart => exact ⟨0, 0, [], by omega, by omega, rfl, rfl, fld_start _ _, Nat.le_refl _, World.ownsRow_nil _ _ _ _, Below.refl _ _⟩
  case round =>
    obtain ⟨k, j, outs, hk, hj, rfl, rfl, hF, hol, hown, hbr⟩ := hrel
    have hszr := hbr.size
    have hol7 : outs.length < 10000000 := by omega
    by_cases hlt : k ≤ s.size
    · by_cases he : k = s.size
      · obtain ⟨hjk, hF2⟩ := HLS.out j outs (he ▸ hF.out)
        rw [← he] at hF2
        have HF2 := Lib.hid hF2
        have hq : ((k : Int) == (s.size : Int)) = true := by rw [he]; simp
        have j1 : (0 : Int) ≤ (j : Int) := by omega
        have j2 : (j : Int) ≤ (k : Int) := by omega
        have j3 : (k : Int) ≤ (s.size : Int) := by omega
        have HXe := Lib.hid (HX.out j k)
        have HE := Lib.hid he
        clear hF2 he
        generalize hS : s.extract j k = S at *
        go_wp2_with (at_builtin; refine wpList_push appStrs rfl (.tmp 22) (.tmp 27) rfl wr [.string S] rfl (by simp [Value.oneCell']) _ outs.length (outs.map fun l => Value.string (bsOf l)) rfl hown rfl hol7 hszr ?_; intro v' w' hown' hgr hat)
        go_wp2_with fail
        go_roundw
        case rel =>
          refine ⟨k + 1, k + 1, _, by omega, by omega, by go_num, by go_num, HF2, by rw [List.length_append]; simp only [List.length_singleton]; omega, ?_, hbr.trans (below_of_grown hgr hszr (fun g hg => (hown.lt g hg).1))⟩
          rw [List.length_append, List.map_append]
          rw [HXe.out] at hown'
          exact hown'
        case measure => simp [intOf]; omega
      · have hk1 : k < s.size := by omega
        have hq : ((k : Int) == (s.size : Int)) = false := by
          rw [beq_eq_false_iff_ne]; omega
        have i1 : (0 : Int) ≤ (k : Int) := by omega
        have i2 : (k : Int) < (s.size : Int) := by omega
        have hb32 := byte32 s[k]
        by_cases hc : s[k] = 32
        · obtain ⟨hjk, hF2⟩ := HHT.out k j hk1 outs hF.out hc
          have HF2 := Lib.hid hF2
          rw [decide_eq_true hc] at hb32
          have j1 : (0 : Int) ≤ (j : Int) := by omega
          have j2 : (j : Int) ≤ (k : Int) := by omega
          have j3 : (k : Int) ≤ (s.size : Int) := by omega
          have HXe := Lib.hid (HX.out j k)
          clear hF2 he hc
          generalize hS : s.extract j k = S at *
          go_wp2_with (at_builtin; refine wpList_push appStrs rfl (.tmp 22) (.tmp 27) rfl wr [.string S] rfl (by simp [Value.oneCell']) _ outs.length (outs.map fun l => Value.string (bsOf l)) rfl hown rfl hol7 hszr ?_; intro v' w' hown' hgr hat)
          go_wp2_with fail
          go_roundw
          case rel =>
            refine ⟨k + 1, k + 1, _, by omega, by omega, by go_num, by go_num, HF2, by rw [List.length_append]; simp only [List.length_singleton]; omega, ?_, hbr.trans (below_of_grown hgr hszr (fun g hg => (hown.lt g hg).1))⟩
            rw [List.length_append, List.map_append]
            rw [HXe.out] at hown'
            exact hown'
          case measure => simp [intOf]; omega
        · have HF2 := Lib.hid (HSK.out k j hk1 outs hF.out hc)
          rw [decide_eq_false hc] at hb32
          clear he hc
          go_wp2_with fail
          go_roundw
          case rel => exact ⟨k + 1, j, outs, by omega, hj, by go_num, rfl, HF2, by omega, hown, hbr⟩
          case measure => simp [intOf]; omega
    · have hk1 : k = s.size + 1 := by omega
      have HE := Lib.hid (HEN.out k j outs hF.out (by omega))
      go_wp2_with fail
      go_ret
      refine ⟨_, rfl, ?_, hbr⟩
      rw [← HE.out]
      exact own_slP hown (fun l hl => HPL.out l (by rw [← HE.out]; exact hl))
end Go.Proofs.YtlkkfkkhllijbaaGreatDoor
