/- value.Parse. -/
import Derived.Test.YtchfmjociflgfaaGreatDoorValUnq
import Derived.Test.YtchfmjociflgfaaGreatDoorValAwake
import Derived.Deep.CutRange
import Derived.Deep.CutBlock
import Derived.Shelf.Strconv.ErrVarAll
namespace Go.Proofs.YtchfmjociflgfaaGreatDoor
open Go.RowKit

theorem below_of_bytes' {w w2 : World} {e : TypeId} (h : w2 = w ∨ ∃ t, w2 = Lib.bytesWorld w e t) : Below w.heap.size w w2 := by
  rcases h with h | ⟨t, h⟩
  · rw [h]; exact Below.refl _ _
  · exact below_of_bytes h
def AtoiPost (s : ByteArray) (w : World) (e : Ending) (w' : World) : Prop :=
  ((∃ n, okOf (Lib.atoiAll s.data.toList) = some n ∧ Fit n ∧ e = .returned (.tuple #[.int .i64 n, .nilIface])) ∨
    (okOf (Lib.atoiAll s.data.toList) = none ∧ ∃ z N, e = .returned (.tuple #[.int .i64 z, .iface 133 (.pointer (some ⟨N, 0, none⟩))]))) ∧ Below w.heap.size w w'
theorem atoi_call (s : ByteArray) (w : World) (hs : s.size ≤ 1000000) (ha : Amb w) : Calls Tryz.prog 55 #[.string s] w (AtoiPost s w) := by
  cases h : Lib.atoiAll s.data.toList
  · rename_i n
    refine (Tryz.strconv_Atoi_ok s (by omega) n h w).mono ?_
    rintro e w' ⟨rfl, hw⟩
    exact ⟨.inl ⟨n, by rw [h]; rfl, Lib.atoiAll_bounds h, rfl⟩, below_of_bytes' hw⟩
  · obtain ⟨tp, p, hv⟩ := ha.syn
    refine (Any.strconv_Atoi_syntax_var Tryz.laysC172 s (by omega) h tp p w hv).mono ?_
    rintro e w' ⟨N, rfl, _, _, hb⟩
    exact ⟨.inr ⟨by rw [h]; rfl, _, N, rfl⟩, hb⟩
  · obtain ⟨tp, p, hv⟩ := ha.rng
    refine (Tryz.strconv_Atoi_range_var s (by omega) h tp p w hv).mono ?_
    rintro e w' ⟨N, rfl, _, _, hb⟩
    exact ⟨.inr ⟨by rw [h]; rfl, _, N, rfl⟩, hb⟩

theorem size_arr (t : List UInt8) : (⟨t.toArray⟩ : ByteArray).size = t.length := List.size_toArray
theorem size_nil : (⟨#[]⟩ : ByteArray).size = 0 := rfl
theorem ne_of_beq {s t : ByteArray} (h : (s.toList == t.toList) = false) : s ≠ t := by rintro rfl; simp at h
theorem eq_of_beq' {s t : ByteArray} (h : (s.toList == t.toList) = true) : s = t := by
  have h := eq_of_beq h
  rw [Lib.toList_data, Lib.toList_data] at h
  cases s; cases t
  congr 1
  exact Array.toList_inj.1 h
theorem text_check {v : Val} {s : ByteArray} (h : textE v ≠ (s, 0)) : (textE v).2 ≠ 0 ∨ (textE v).1 ≠ s := by
  rcases Classical.em ((textE v).2 = 0) with h2 | h2
  · right; intro h1; exact h (by rw [← h1, ← h2])
  · exact .inl h2
theorem parse_check_txt {s t : ByteArray} (h1 : s ≠ trueS) (h2 : s ≠ falseS) (hq : headB s.data.toList = true) (hu : unquoteE s = (t, 0)) :
    parseE s = if textE ⟨3, 0, t⟩ = (s, 0) then (⟨3, 0, t⟩, 0) else (noV, 3) := by
  have hqt := unquote_ok hu
  by_cases ht : textB t = true
  · rw [parse_txt h1 h2 (num_quoted hq) (txt_some.2 ⟨hu, ht⟩)]
    have hv : validV ⟨3, 0, t⟩ = true := by show (decide ((0 : Int) = 0) && textB t) = true; rw [ht]; rfl
    have : textE ⟨3, 0, t⟩ = (s, 0) := by
      unfold textE
      rw [hv, if_pos rfl]
      show (quoteS t, (0 : Int)) = _
      rw [hqt]
    rw [if_pos this]
  · have : txtOf s = none := by
      cases hx : txtOf s with
      | none => rfl
      | some t' =>
        obtain ⟨e1, e2⟩ := txt_some.1 hx
        rw [hu] at e1
        injection e1 with e1 _
        subst e1
        exact absurd e2 ht
    rw [parse_none h1 h2 (num_quoted hq) this]
    have hv : validV ⟨3, 0, t⟩ = false := by
      show (decide ((0 : Int) = 0) && textB t) = false
      cases hx : textB t
      · rfl
      · exact absurd hx ht
    have : textE ⟨3, 0, t⟩ ≠ (s, 0) := by
      unfold textE
      rw [hv]
      intro h; injection h with _ h; cases h
    rw [if_neg this]; rfl
theorem parse_check_bad {s : ByteArray} (h1 : s ≠ trueS) (h2 : s ≠ falseS) (hq : headB s.data.toList = true) (hu : (unquoteE s).2 ≠ 0) : parseE s = (noV, 3) := by
  have : txtOf s = none := by
    cases hx : txtOf s with
    | none => rfl
    | some t' =>
      obtain ⟨e1, e2⟩ := txt_some.1 hx
      rw [e1] at hu
      exact absurd rfl hu
  rw [parse_none h1 h2 (num_quoted hq) this]; rfl
theorem parse_check_num {s : ByteArray} {n : Int} (h1 : s ≠ trueS) (h2 : s ≠ falseS) (hq : headB s.data.toList = false) (hu : okOf (Lib.atoiAll s.data.toList) = some n) :
    parseE s = if textE ⟨2, n, ⟨#[]⟩⟩ = (s, 0) then (⟨2, n, ⟨#[]⟩⟩, 0) else (noV, 3) := by
  have hv : validV ⟨2, n, ⟨#[]⟩⟩ = numB n := by show (numB n && noS ⟨#[]⟩) = numB n; rw [show noS ⟨#[]⟩ = true by decide +kernel, Bool.and_true]
  have ht : textE ⟨2, n, ⟨#[]⟩⟩ = if numB n then (itoaS n, 0) else (⟨#[]⟩, 1) := by unfold textE; rw [hv]; rfl
  have hn : numOf s = if numB n && decide (itoaS n = s) then some n else none := by unfold numOf; rw [hu]; rfl
  rw [ht]
  by_cases hb : numB n = true
  · by_cases hs : itoaS n = s
    · rw [parse_num h1 h2 (num_some.2 ⟨hb, hs⟩), hb, if_pos rfl, if_pos (by rw [hs])]
    · rw [parse_none h1 h2 (by rw [hn, if_neg (by simp [hs])]) (txt_bare hq), hb, if_pos rfl, if_neg (by intro h; injection h with h _; exact hs h)]; rfl
  · rw [parse_none h1 h2 (by rw [hn, if_neg (by simp [hb])]) (txt_bare hq), if_neg hb, if_neg (by intro h; injection h with _ h; cases h)]; rfl
theorem parse_check_none {s : ByteArray} (h1 : s ≠ trueS) (h2 : s ≠ falseS) (hq : headB s.data.toList = false) (hu : okOf (Lib.atoiAll s.data.toList) = none) : parseE s = (noV, 3) := by
  rw [parse_none h1 h2 (by unfold numOf; rw [hu]; rfl) (txt_bare hq)]; rfl
theorem text_true : textE ⟨1, 1, ⟨#[]⟩⟩ = (trueS, 0) := by decide +kernel
theorem text_false : textE ⟨1, 0, ⟨#[]⟩⟩ = (falseS, 0) := by decide +kernel
theorem unq_size (s : ByteArray) : (unquoteE s).1.size ≤ 16384 := by
  unfold unquoteE
  split
  · show (⟨#[]⟩ : ByteArray).size ≤ 16384
    rw [size_nil]; omega
  split
  · unfold endE
    split
    · split
      · show (⟨#[]⟩ : ByteArray).size ≤ 16384
        rw [size_nil]; omega
      · show (⟨_⟩ : ByteArray).size ≤ 16384
        rw [size_arr]; omega
    · show (⟨#[]⟩ : ByteArray).size ≤ 16384
      rw [size_nil]; omega
    · show (⟨#[]⟩ : ByteArray).size ≤ 16384
      rw [size_nil]; omega
  · show (⟨#[]⟩ : ByteArray).size ≤ 16384
    rw [size_nil]; omega

theorem prefix_head (s : ByteArray) : Lib.hasPrefix s.data.toList (⟨#[34]⟩ : ByteArray).data.toList = headB s.data.toList := by
  unfold Lib.hasPrefix headB
  cases h : s.data.toList with
  | nil => rfl
  | cons c l =>
    show ((34 : UInt8) == c && List.isPrefixOf [] l) = decide (c.toNat = 34)
    have : List.isPrefixOf [] l = true := by cases l <;> rfl
    rw [this, Bool.and_true]
    rw [Bool.eq_iff_iff]
    simp only [beq_iff_eq, decide_eq_true_eq]
    constructor
    · rintro rfl; rfl
    · intro h; exact (toNat_34 h).symm
set_option maxHeartbeats 1000000 in
theorem unquote_any (s : ByteArray) (w : World) (hs : s.size ≤ maxLen) : Calls Tryz.prog 54 #[.string s] w fun e w' => e = .returned (.tuple #[.string (unquoteE s).1, .int .i64 (unquoteE s).2]) ∧ Below w.heap.size w w' := by
  have hs0 := hs
  unfold maxLen at hs
  go_enter Tryz.func54, Tryz.ntmps54
  by_cases h1 : 32770 < s.size
  · have HE := Lib.hid (unquote_full h1)
    go_wp2_with fail
    go_ret2
    exact ⟨ret_si (by rw [HE.out]), Below.refl _ _⟩
  have hp := prefix_head s
  generalize hh : headB s.data.toList = hd at hp
  have HH := Lib.hid hh
  clear hh
  have HP := Lib.hid hp
  clear hp
  go_wp2_with fail
  refine (Tryz.strings_HasPrefix s ⟨#[34]⟩ _).mono ?_
  rintro e w1 ⟨rfl, rfl⟩
  rw [HP.out]
  cases hd
  · have HE := Lib.hid (unquote_form h1 (by rw [HH.out]; rfl))
    go_wp2_with fail
    go_ret2
    exact ⟨ret_si (by rw [HE.out]), Below.refl _ _⟩
  go_wp2_with fail
  refine (printable_any s _ hs0).mono ?_
  rintro e w2 ⟨rfl, rfl⟩
  generalize hq : plainS s = q
  have HQ := Lib.hid hq
  clear hq
  cases q
  · have HE := Lib.hid (unquote_form h1 (by rw [HH.out, HQ.out]; rfl))
    go_wp2_with fail
    go_ret2
    exact ⟨ret_si (by rw [HE.out]), Below.refl _ _⟩
  have HE := Lib.hid (unquote_read h1 (by rw [HH.out, HQ.out]; rfl))
  have hl1 : 1 ≤ s.size := by
    rcases Nat.lt_or_ge 0 s.size with h | h
    · exact h
    · have e0 : s.data.toList = [] := List.eq_nil_of_length_eq_zero (by rw [size_list]; omega)
      have := HH.out
      rw [e0] at this
      cases this
  have hB0 : IsReader (w1.alloc (.cells #[.string s, .int .i64 1] 105)) w1.heap.size s 1 := Blk.new w1 _ _
  have hb0 := bone w1 (.cells #[.string s, .int .i64 1] 105)
  go_wp2_with fail
  refine (lit_any w1.heap.size s 1 _ (by omega) hl1 hB0).mono ?_
  rintro e w3 ⟨rfl, hg3, hr3⟩
  have hb3 : Below w1.heap.size w1 w3 := hb0.trans (below_of_grown hg3 (by simp) (fun g hg => by injection hg with hg; omega))
  have hrl := read_len _ (s.data.toList.drop 1) [] (Nat.le_refl _)
  have hrl2 : (s.data.toList.drop 1).length ≤ s.size := by rw [List.length_drop, size_list]; omega
  generalize readB [] (s.data.toList.drop 1) = R at *
  obtain ⟨z, t, rest⟩ := R
  dsimp only at *
  by_cases hz : z = 0
  · subst hz
    have hBr := hr3 rfl
    clear hr3 hB0 hb0 hg3
    go_wp2_with fail
    refine (more_any w1.heap.size s (s.size - rest.length) _ (by omega) (by omega) hBr).mono ?_
    rintro e w4 ⟨rfl, q, rfl⟩
    cases rest with
    | cons a l =>
      have HR : Hid (unquoteE s = (⟨#[]⟩, 3)) := HE.out
      rw [decide_eq_true (by simp; omega)]
      clear hBr
      go_wp2_with fail
      go_ret2
      exact ⟨ret_si (by rw [HR.out]), bdrawn hb3 _⟩
    | nil =>
      rw [decide_eq_false (by simp)]
      clear hBr
      by_cases hl : 16384 < t.length
      · have HR : Hid (unquoteE s = (⟨#[]⟩, 5)) := by show _ = _; rw [HE.out]; exact if_pos hl
        have hsz : 16384 < (⟨t.toArray⟩ : ByteArray).size := by rw [size_arr]; exact hl
        go_wp2_with fail
        go_ret2
        exact ⟨ret_si (by rw [HR.out]), bdrawn hb3 _⟩
      · have HR : Hid (unquoteE s = (⟨t.toArray⟩, 0)) := by show _ = _; rw [HE.out]; exact if_neg hl
        have hsz : (⟨t.toArray⟩ : ByteArray).size ≤ 16384 := by rw [size_arr]; omega
        go_wp2_with fail
        go_ret2
        exact ⟨ret_si (by rw [HR.out]), bdrawn hb3 _⟩
  · have HR : Hid (unquoteE s = (⟨#[]⟩, z)) := by
      show _ = _
      rw [HE.out]
      unfold endE
      split
      · rename_i h1; injection h1 with h1 _; exact absurd h1 hz
      · rename_i h1; injection h1 with h1 _; exact absurd h1 hz
      · rename_i h1; injection h1 with h1 _; rw [h1]
    have b1 : (z != 0) = true := by simpa using hz
    clear hr3 hB0 hb0 hg3 hz
    go_wp2_with fail
    go_ret2
    exact ⟨ret_si (by rw [HR.out]), hb3⟩

/-- A value's block. -/
def BlkV (w : World) (g : Nat) (v : Val) : Prop := Blk w g 23 #[.int .i64 v.kind, .int .i64 v.n, .string v.s]
theorem head_no {s : ByteArray} (h : headB s.data.toList = false) : s.toList.isEmpty = true ∨ (s.toList.isEmpty = false ∧ ∃ h : 0 < s.size, ((s[0].toNat : Int) == 34) = false) := by
  rw [Lib.toList_data]
  by_cases h2 : 0 < s.size
  · right
    have e := drop_at (s := s) (k := 0) h2
    rw [List.drop_zero] at e
    rw [e] at h ⊢
    refine ⟨rfl, h2, ?_⟩
    have h' : ¬ (s[0].toNat = 34) := of_decide_eq_false h
    rw [beq_eq_false_iff_ne]; omega
  · left
    have e0 : s.data.toList = [] := List.eq_nil_of_length_eq_zero (by rw [size_list]; omega)
    rw [e0]; rfl
theorem head_yes {s : ByteArray} (h : headB s.data.toList = true) : s.toList.isEmpty = false ∧ ∃ h : 0 < s.size, ((s[0].toNat : Int) == 34) = true := by
  rw [Lib.toList_data]
  by_cases h2 : 0 < s.size
  · have e := drop_at (s := s) (k := 0) h2
    rw [List.drop_zero] at e
    rw [e] at h ⊢
    refine ⟨rfl, h2, ?_⟩
    have h' : s[0].toNat = 34 := of_decide_eq_true h
    rw [h']; rfl
  · have e0 : s.data.toList = [] := List.eq_nil_of_length_eq_zero (by rw [size_list]; omega)
    rw [e0] at h; cases h
theorem t_true : trueS.toList = [116, 114, 117, 101] := by rw [Lib.toList_data]; rfl
theorem t_false : falseS.toList = [102, 97, 108, 115, 101] := by rw [Lib.toList_data]; rfl
theorem fit_small (a b : Int) (ha : 0 ≤ a ∧ a ≤ 3) (hb : 0 ≤ b ∧ b ≤ 3) : FitV ⟨a, b, ⟨#[]⟩⟩ := ⟨by unfold Fit; dsimp only; omega, by unfold Fit; dsimp only; omega, by rw [size_nil]; exact Nat.zero_le _⟩
theorem put3 {w w1 : World} (hB : Blk w1 w.heap.size 23 #[.int .i64 0, .int .i64 0, .string ⟨#[]⟩]) (hC : Blk w1 (w.heap.size + 1) 23 #[.int .i64 0, .int .i64 0, .string ⟨#[]⟩]) (hb : Below w.heap.size w w1) (v : Val) :
    BlkV (((w1.setCell ⟨w.heap.size + 1, 0, none⟩ (.int .i64 v.kind)).setCell ⟨w.heap.size + 1, 1, none⟩ (.int .i64 v.n)).setCell ⟨w.heap.size + 1, 2, none⟩ (.string v.s)) w.heap.size noV ∧
    BlkV (((w1.setCell ⟨w.heap.size + 1, 0, none⟩ (.int .i64 v.kind)).setCell ⟨w.heap.size + 1, 1, none⟩ (.int .i64 v.n)).setCell ⟨w.heap.size + 1, 2, none⟩ (.string v.s)) (w.heap.size + 1) v ∧
    Below w.heap.size w (((w1.setCell ⟨w.heap.size + 1, 0, none⟩ (.int .i64 v.kind)).setCell ⟨w.heap.size + 1, 1, none⟩ (.int .i64 v.n)).setCell ⟨w.heap.size + 1, 2, none⟩ (.string v.s)) :=
  ⟨((hB.far (p := ⟨w.heap.size + 1, 0, none⟩) (by simp) _).far (p := ⟨w.heap.size + 1, 1, none⟩) (by simp) _).far (p := ⟨w.heap.size + 1, 2, none⟩) (by simp) _, hC.set3 _ _ _, bset3 hb (by omega) _ _ _⟩

def ParsePost (s : ByteArray) (w : World) (e : Ending) (w' : World) : Prop := e = .returned (.tuple #[valV (parseE s).1, .int .i64 (parseE s).2]) ∧ Below w.heap.size w w'
set_option maxHeartbeats 4000000 in
theorem parse_any (s : ByteArray) (w : World) (hs : s.size ≤ 1000000) (ha : Amb w) : Calls Tryz.prog 17 #[.string s] w (ParsePost s w) := by
  have hb0 := bone w (.cells #[.int .i64 0, .int .i64 0, .string ⟨#[]⟩] 23)
  have hb := bbox hb0 (.cells #[.int .i64 0, .int .i64 0, .string ⟨#[]⟩] 23)
  have hB := (Blk.new w 23 #[.int .i64 0, .int .i64 0, .string ⟨#[]⟩]).alloc (.cells #[.int .i64 0, .int .i64 0, .string ⟨#[]⟩] 23)
  have hC := Blk.new_at (t := 23) (cs := #[.int .i64 0, .int .i64 0, .string ⟨#[]⟩]) (w := w.alloc (.cells #[.int .i64 0, .int .i64 0, .string ⟨#[]⟩] 23)) (s := w.heap.size + 1) (by simp)
  go_enter Tryz.func17, Tryz.ntmps17
  go_upto_block 0 with fail
  generalize hw1 : (w.alloc (.cells #[.int .i64 0, .int .i64 0, .string ⟨#[]⟩] 23)).alloc (.cells #[.int .i64 0, .int .i64 0, .string ⟨#[]⟩] 23) = w1 at *
  have ha1 := ha.now hb
  clear hw1
  go_cut [] from 11 to 46 (fun wc => ∃ v : Val, FitV v ∧ parseE s = (if textE v = (s, 0) then (v, 0) else (noV, 3)) ∧ BlkV wc w.heap.size noV ∧ BlkV wc (w.heap.size + 1) v ∧ Below w.heap.size w wc)
  case first =>
    generalize q1 : (s.toList == [116, 114, 117, 101]) = r1
    obtain ⟨y0, y1, y2⟩ := hC.c3
    obtain ⟨x0, x1, x2⟩ := hB.c3
    have z0 := hC.frozen 0
    have z1 := hC.frozen 1
    have z2 := hC.frozen 2
    have k0 := hB.frozen 0
    have k1 := hB.frozen 1
    have k2 := hB.frozen 2
    cases r1
    rotate_left
    · have e1 : s = trueS := eq_of_beq' (t := trueS) (by rw [t_true]; exact q1)
      have hS := Lib.hid (put3 hB hC hb ⟨1, 1, ⟨#[]⟩⟩)
      have HP : Hid (parseE s = (if textE ⟨1, 1, ⟨#[]⟩⟩ = (s, 0) then (⟨1, 1, ⟨#[]⟩⟩, 0) else (noV, 3))) := by
        show _ = _
        rw [parse_true e1, text_true, e1, if_pos rfl]
      clear hB hC hb e1 k0 k1 k2 x0 x1 x2
      go_wp2_with fail
      go_meet
      exact ⟨⟨1, 1, ⟨#[]⟩⟩, fit_small 1 1 (by omega) (by omega), HP.out, hS.out.1, hS.out.2.1, hS.out.2.2⟩
    have n1 : s ≠ trueS := ne_of_beq (t := trueS) (by rw [t_true]; exact q1)
    generalize q2 : (s.toList == [102, 97, 108, 115, 101]) = r2
    cases r2
    rotate_left
    · have e1 : s = falseS := eq_of_beq' (t := falseS) (by rw [t_false]; exact q2)
      have hS := Lib.hid (put3 hB hC hb ⟨1, 0, ⟨#[]⟩⟩)
      have HP : Hid (parseE s = (if textE ⟨1, 0, ⟨#[]⟩⟩ = (s, 0) then (⟨1, 0, ⟨#[]⟩⟩, 0) else (noV, 3))) := by
        show _ = _
        rw [parse_false e1, text_false, e1, if_pos rfl]
      clear hB hC hb e1 n1 k0 k1 k2 x0 x1 x2
      go_wp2_with fail
      go_meet
      exact ⟨⟨1, 0, ⟨#[]⟩⟩, fit_small 1 0 (by omega) (by omega), HP.out, hS.out.1, hS.out.2.1, hS.out.2.2⟩
    have n2 : s ≠ falseS := ne_of_beq (t := falseS) (by rw [t_false]; exact q2)
    have N := Lib.hid (And.intro n1 n2)
    clear n1 n2
    generalize hh : headB s.data.toList = hd
    have HH := Lib.hid hh
    clear hh
    cases hd
    · have HS : Hid (s.toList.isEmpty = true ∨ (s.toList.isEmpty = false ∧ ∃ h : 0 < s.size, ((s[0].toNat : Int) == 34) = false)) := head_no HH.out
      have HG : ∀ Q : Prop, (s.toList.isEmpty = true → Q) → (s.toList.isEmpty = false → ∀ h : 0 < s.size, ((s[0].toNat : Int) == 34) = false → Q) → Q := fun Q a b => HS.out.elim a (fun h => h.2.elim fun h1 h2 => b h.1 h1 h2)
      clear k0 k1 k2 x0 x1 x2 y0 y1 y2 z0 z1 z2
      have HX := Lib.hid (And.intro hB (And.intro hC hb))
      clear hB hC hb
      refine HG _ (fun s3 => ?_) (fun s3 s4 s5 => ?_)
      all_goals
        clear HG HS
        try (have s4' : (0 : Int) < (s.size : Int) := by omega)
        go_wp2_with fail
        refine (atoi_call s _ hs ha1).mono ?_
        rintro e w2 ⟨hat, hb2⟩
        obtain ⟨hB, hC, hb⟩ := HX.out
        have hB2 := hB.now hb2
        have hC2 := hC.now hb2
        have hbw2 := bthen hb hb2
        clear hB hC hb
        rcases hat with ⟨n, hn, hf, rfl⟩ | ⟨hn, z, N0, rfl⟩
        · have HP := Lib.hid (parse_check_num N.out.1 N.out.2 HH.out hn)
          have hS := Lib.hid (put3 hB2 hC2 hbw2 ⟨2, n, ⟨#[]⟩⟩)
          obtain ⟨y0, y1, y2⟩ := hC2.c3
          have z0 := hC2.frozen 0
          have z1 := hC2.frozen 1
          have z2 := hC2.frozen 2
          clear hB2 hC2 hbw2 hn
          go_wp2_with fail
          go_meet
          exact ⟨⟨2, n, ⟨#[]⟩⟩, ⟨by simp [Fit], hf, by rw [size_nil]; exact Nat.zero_le _⟩, HP.out, hS.out.1, hS.out.2.1, hS.out.2.2⟩
        · have HP := Lib.hid (parse_check_none N.out.1 N.out.2 HH.out hn)
          obtain ⟨x0, x1, x2⟩ := hB2.c3
          have k0 := hB2.frozen 0
          have k1 := hB2.frozen 1
          have k2 := hB2.frozen 2
          clear hn
          go_wp2_with fail
          obtain ⟨t0, t1, t2⟩ := (hB2.set3 (.int .i64 0) (.int .i64 0) (.string ⟨#[]⟩)).c3
          refine bodyPost_ret (v := .tuple #[.agg #[.int .i64 0, .int .i64 0, .string ⟨#[]⟩], .int .i64 3]) (by simp [results, Tryz.results17, go_sem, t0, t1, t2]) rfl ?_
          exact ⟨by rw [HP.out]; rfl, bset3 hbw2 (Nat.le_refl _) _ _ _⟩
    · obtain ⟨s3, s4, s5⟩ := head_yes HH.out
      have HX := Lib.hid (And.intro hB (And.intro hC hb))
      clear hB hC hb k0 k1 k2 x0 x1 x2 y0 y1 y2 z0 z1 z2
      have s4' : (0 : Int) < (s.size : Int) := by omega
      go_wp2_with fail
      refine (unquote_any s _ (by unfold maxLen; omega)).mono ?_
      rintro e w2 ⟨rfl, hb2⟩
      obtain ⟨hB, hC, hb⟩ := HX.out
      have hB2 := hB.now hb2
      have hC2 := hC.now hb2
      have hbw2 := bthen hb hb2
      clear hB hC hb HX
      have hus := unq_size s
      generalize hu : unquoteE s = u at *
      obtain ⟨t, z⟩ := u
      dsimp only at *
      by_cases hz : z = 0
      · subst hz
        have HP := Lib.hid (parse_check_txt N.out.1 N.out.2 HH.out hu)
        have hS := Lib.hid (put3 hB2 hC2 hbw2 ⟨3, 0, t⟩)
        obtain ⟨y0, y1, y2⟩ := hC2.c3
        have z0 := hC2.frozen 0
        have z1 := hC2.frozen 1
        have z2 := hC2.frozen 2
        clear hB2 hC2 hbw2 hu
        go_wp2_with fail
        go_meet
        exact ⟨⟨3, 0, t⟩, ⟨by simp [Fit], by simp [Fit], by unfold maxLen; show t.size ≤ _; omega⟩, HP.out, hS.out.1, hS.out.2.1, hS.out.2.2⟩
      · have HP := Lib.hid (parse_check_bad N.out.1 N.out.2 HH.out (by rw [hu]; exact hz))
        have b1 : (z != 0) = true := by simpa using hz
        obtain ⟨x0, x1, x2⟩ := hB2.c3
        have k0 := hB2.frozen 0
        have k1 := hB2.frozen 1
        have k2 := hB2.frozen 2
        clear hz hu
        go_wp2_with fail
        obtain ⟨t0, t1, t2⟩ := (hB2.set3 (.int .i64 0) (.int .i64 0) (.string ⟨#[]⟩)).c3
        refine bodyPost_ret (v := .tuple #[.agg #[.int .i64 0, .int .i64 0, .string ⟨#[]⟩], .int .i64 3]) (by simp [results, Tryz.results17, go_sem, t0, t1, t2]) rfl ?_
        exact ⟨by rw [HP.out]; rfl, bset3 hbw2 (Nat.le_refl _) _ _ _⟩
  case rest =>
    obtain ⟨v, hf, hp, hB, hC, hb⟩ := hcut
    have HP := Lib.hid hp
    clear hp
    unfold BlkV at hB hC
    have ha2 := ha.now hb
    obtain ⟨y0, y1, y2⟩ := hC.c3
    go_wp2_with fail
    refine (textE_any v _ hf ha2).mono ?_
    rintro e w4 ⟨rfl, hb4⟩
    have hB4 := hB.now hb4
    have hC4 := hC.now hb4
    have hbw4 := bthen hb hb4
    clear hB hC hb y0 y1 y2
    obtain ⟨x0, x1, x2⟩ := hB4.c3
    obtain ⟨y0, y1, y2⟩ := hC4.c3
    have k0 := hB4.frozen 0
    have k1 := hB4.frozen 1
    have k2 := hB4.frozen 2
    by_cases ht : textE v = (s, 0)
    · rw [ht]
      have HE : Hid (parseE s = (v, 0)) := by show _ = _; rw [HP.out, if_pos ht]
      clear ht
      go_wp2_with fail
      obtain ⟨t0, t1, t2⟩ := (hB4.set3 (.int .i64 v.kind) (.int .i64 v.n) (.string v.s)).c3
      refine bodyPost_ret (v := .tuple #[.agg #[.int .i64 v.kind, .int .i64 v.n, .string v.s], .int .i64 0]) (by simp [results, Tryz.results17, go_sem, t0, t1, t2]) rfl ?_
      exact ⟨by rw [HE.out]; rfl, bset3 hbw4 (Nat.le_refl _) _ _ _⟩
    · have HE : Hid (parseE s = (noV, 3)) := by show _ = _; rw [HP.out, if_neg ht]
      have hc := text_check ht
      generalize textE v = u at *
      obtain ⟨t, z⟩ := u
      dsimp only at *
      have HG : ∀ Q : Prop, ((z != 0) = true → Q) → ((z != 0) = false → (t.toList == s.toList) = false → Q) → Q := by
        intro Q a b
        by_cases hz : z = 0
        · refine b (by simpa using hz) ?_
          rcases hc with hc | hc
          · exact absurd hz hc
          · cases hq : (t.toList == s.toList)
            · rfl
            · exact absurd (eq_of_beq' hq) hc
        · exact a (by simpa using hz)
      clear hc ht
      refine HG _ (fun b1 => ?_) (fun b1 b2 => ?_)
      all_goals
        clear HG
        go_wp2_with fail
        obtain ⟨t0, t1, t2⟩ := (hB4.set3 (.int .i64 0) (.int .i64 0) (.string ⟨#[]⟩)).c3
        refine bodyPost_ret (v := .tuple #[.agg #[.int .i64 0, .int .i64 0, .string ⟨#[]⟩], .int .i64 3]) (by simp [results, Tryz.results17, go_sem, t0, t1, t2]) rfl ?_
        exact ⟨by rw [HE.out]; rfl, bset3 hbw4 (Nat.le_refl _) _ _ _⟩
end Go.Proofs.YtchfmjociflgfaaGreatDoor
