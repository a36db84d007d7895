/- Numbers of a net's text, and what is asked of the package variables. -/
import Derived.Test.YtlkkfkkhllijbaaGreatDoorTxtSpec
import Derived.Test.YtlkkfkkhllijbaaGreatDoorShelf
import Derived.Test.YtlkkfkkhllijbaaGreatDoorOwn
import Derived.Test.YtlkkfkkhllijbaaGreatDoorDecimal
import Derived.Lib.AtoiErrMem
import Derived.Shelf.Strconv.ErrVarAll
namespace Go.Proofs.YtlkkfkkhllijbaaGreatDoor
open Go.RowKit

theorem var_now {P : Program} {w w' : World} {n : String} {cs : Array Value} (h : w.var? P n = some cs) (hb : Below w.heap.size w w') : w'.var? P n = some cs := by
  unfold World.var? at h ⊢
  obtain ⟨g, hg, h1⟩ := Option.bind_eq_some_iff.1 h
  rw [hg]
  show (match w'.heap[g]? with | some (.cells cs _ _) => some cs | _ => none) = some cs
  have hlt : g < w.heap.size := by
    rcases Nat.lt_or_ge g w.heap.size with h' | h'
    · exact h'
    · rw [Array.getElem?_eq_none h'] at h1; cases h1
  rw [hb.block g hlt]
  exact h1
/-- What the program asks of the package variables that it reads. -/
structure AmbP (w : World) : Prop where
  tab : Lib.TabIs Tryz.prog w "internal/strconv.uint64pow10" .u64 Lib.pow10Tab
  syn : ∃ tp p, w.var? Tryz.prog "strconv.ErrSyntax" = some #[.iface tp p]
  rng : ∃ tp p, w.var? Tryz.prog "strconv.ErrRange" = some #[.iface tp p]
  mx : ∃ m, w.cell? ⟨0, 0, none⟩ = some (.int .i64 m)
theorem AmbP.now {w w' : World} (h : AmbP w) (hb : Below w.heap.size w w') : AmbP w' := by
  obtain ⟨h1, ⟨t, p, h2⟩, ⟨t', p', h3⟩, ⟨m, h4⟩⟩ := h
  exact ⟨var_now h1 hb, ⟨t, p, var_now h2 hb⟩, ⟨t', p', var_now h3 hb⟩, ⟨m, (World.cell?_of_block (hb.block _ (World.block_lt_of_cell? _ _ h4))).trans h4⟩⟩

def itoaS (n : Int) : ByteArray := ⟨(Lib.itoa n).toArray⟩
theorem bgrow (w : World) (k : Nat) (os : Array Obj) : Below w.heap.size w (Go.Sort.grow (w.drewN k) os) := by
  refine ⟨rfl, rfl, rfl, ?_, fun b hb => ?_⟩
  · show w.heap.size ≤ (w.heap ++ os).size
    rw [Array.size_append]; omega
  · show (w.heap ++ os)[b]? = w.heap[b]?
    rw [Array.getElem?_append_left hb]
theorem itoa_any (n : Int) (w : World) (hf : Fit n) (ha : AmbP w) : Calls Tryz.prog 29 #[.int .i64 n] w fun e w' => e = .returned (.string (itoaS n)) ∧ Below w.heap.size w w' :=
  (Tryz.strconv_Itoa n hf.1 hf.2 _ ha.tab).mono fun e w' ⟨he, kk, os, hw⟩ => ⟨he, by rw [hw]; exact bgrow w kk os⟩
def okOf : Lib.NumEnd Int → Option Int
  | .ok n => some n
  | _ => none
theorem below_of_bytes {w w2 : World} {e : TypeId} {t : ByteArray} (h : w2 = Lib.bytesWorld w e t) : Below w.heap.size w w2 := by rw [h]; exact Lib.bytesWorld_below _ _ _
theorem below_of_bytes' {w w2 : World} {e : TypeId} (h : w2 = w ∨ ∃ t, w2 = Lib.bytesWorld w e t) : Below w.heap.size w w2 := by
  rcases h with h | ⟨t, h⟩
  · rw [h]; exact Below.refl _ _
  · exact below_of_bytes h
def AtoiPost (s : ByteArray) (w : World) (e : Ending) (w' : World) : Prop :=
  ((∃ n, okOf (Lib.atoiAll s.data.toList) = some n ∧ Fit n ∧ e = .returned (.tuple #[.int .i64 n, .nilIface])) ∨
    (okOf (Lib.atoiAll s.data.toList) = none ∧ ∃ z N, e = .returned (.tuple #[.int .i64 z, .iface 120 (.pointer (some ⟨N, 0, none⟩))]))) ∧ Below w.heap.size w w'
theorem atoi_call (s : ByteArray) (w : World) (hs : s.size ≤ 1000000) (ha : AmbP w) : Calls Tryz.prog 64 #[.string s] w (AtoiPost s w) := by
  cases h : Lib.atoiAll s.data.toList
  · rename_i n
    refine (Tryz.strconv_Atoi_ok s (by omega) n h w).mono ?_
    rintro e w' ⟨rfl, hw⟩
    exact ⟨.inl ⟨n, by rw [h]; rfl, Lib.atoiAll_bounds h, rfl⟩, below_of_bytes' hw⟩
  · obtain ⟨tp, p, hv⟩ := ha.syn
    refine (Any.strconv_Atoi_syntax_var Tryz.laysC172 s (by omega) h tp p w hv).mono ?_
    rintro e w' ⟨N, rfl, _, _, hb⟩
    exact ⟨.inr ⟨by rw [h]; rfl, _, N, rfl⟩, hb⟩
  · obtain ⟨tp, p, hv⟩ := ha.rng
    refine (Tryz.strconv_Atoi_range_var s (by omega) h tp p w hv).mono ?_
    rintro e w' ⟨N, rfl, _, _, hb⟩
    exact ⟨.inr ⟨by rw [h]; rfl, _, N, rfl⟩, hb⟩
theorem eq_of_beq' {s t : ByteArray} (h : (s.toList == t.toList) = true) : s = t := by
  have h := eq_of_beq h
  rw [Lib.toList_data, Lib.toList_data] at h
  cases s; cases t
  congr 1
  exact Array.toList_inj.1 h
theorem ne_of_beq {s t : ByteArray} (h : (s.toList == t.toList) = false) : s ≠ t := by rintro rfl; simp at h
theorem list_eq {s : ByteArray} {l : List UInt8} (h : s.data.toList = l) : s = ⟨l.toArray⟩ := by subst h; rfl
theorem numB_itoa {z : Int} (h : 0 ≤ z) : numB z = Lib.itoa z := by
  obtain ⟨u, rfl⟩ := Int.eq_ofNat_of_zero_le h
  unfold numB
  rw [Lib.itoa_nonneg]; rfl
/-- A number of a text is what Atoi reads. -/
theorem num9_atoi {l : List UInt8} {z : Int} (h : num9 l = some z) : 0 ≤ z ∧ z < 1000000000 ∧ l = Lib.itoa z ∧ Lib.atoiAll l = .ok z := by
  obtain ⟨h0, h1, h2⟩ := num9_some.1 h
  have hz : z < 1000000000 := by
    obtain ⟨u, rfl⟩ := Int.eq_ofNat_of_zero_le h0
    have h3 := Lib.decFrom_lt _ 0 u (decFrom_digits u)
    have e : numB (u : Int) = Lib.decDigits u := rfl
    rw [h1, e] at h2
    have h4 := Nat.pow_le_pow_right (n := 10) (by decide) h2
    have e2 : (10 : Nat) ^ 9 = 1000000000 := by decide
    omega
  have h5 : l = Lib.itoa z := by rw [h1]; exact numB_itoa h0
  exact ⟨h0, hz, h5, by rw [h5]; exact atoiAll_itoa (by omega) (by omega)⟩
theorem num9_fit {l : List UInt8} {z : Int} (h : num9 l = some z) : Fit z := by
  obtain ⟨h1, h2, _⟩ := num9_atoi h
  unfold Fit; omega
theorem num9_no {l : List UInt8} (h : okOf (Lib.atoiAll l) = none) : num9 l = none := by
  cases hn : num9 l with
  | none => rfl
  | some z => rw [(num9_atoi hn).2.2.2] at h; cases h
theorem num9_neg {l : List UInt8} {n : Int} (h : okOf (Lib.atoiAll l) = some n) (h0 : n < 0) : num9 l = none := by
  cases hn : num9 l with
  | none => rfl
  | some z =>
    have := num9_atoi hn
    rw [this.2.2.2] at h
    injection h with h
    omega
theorem num9_yes {s : ByteArray} {n : Int} (h : okOf (Lib.atoiAll s.data.toList) = some n) (h0 : 0 ≤ n) (h9 : s.size ≤ 9) : num9 s.data.toList = if ((itoaS n).toList == s.toList) then some n else none := by
  have hsz : s.data.toList.length = s.size := by rw [Array.length_toList]; rfl
  cases hb : ((itoaS n).toList == s.toList)
  · rw [if_neg (by simp)]
    cases hn : num9 s.data.toList with
    | none => rfl
    | some z =>
      exfalso
      have h1 := num9_atoi hn
      rw [h1.2.2.2] at h
      injection h with h
      subst h
      have : s = itoaS z := list_eq h1.2.2.1
      rw [← this] at hb
      simp at hb
  · rw [if_pos rfl]
    have := eq_of_beq' hb
    refine num9_some.2 ⟨h0, ?_, by omega⟩
    rw [← this, numB_itoa h0]; rfl
def NumPost (s : ByteArray) (w : World) (e : Ending) (w' : World) : Prop :=
  (∃ (z : Int) (ok : Bool), e = .returned (.tuple #[.int .i64 z, .bool ok]) ∧ num9 s.data.toList = (if ok then some z else none)) ∧ Below w.heap.size w w'

set_option maxHeartbeats 1000000 in
theorem ptNum_any (s : ByteArray) (w : World) (hs : s.size ≤ 1000000) (ha : AmbP w) : Calls Tryz.prog 44 #[.string s] w (NumPost s w) := by
  go_enter Tryz.func44, Tryz.ntmps44
  go_wp2_with fail
  refine (atoi_call s _ hs ha).mono ?_
  rintro e w1 ⟨h, hb1⟩
  have ha1 := ha.now hb1
  rcases h with ⟨n, hn, hf, rfl⟩ | ⟨hn, z, N, rfl⟩
  · by_cases h0 : n < 0
    · have HN := Lib.hid (num9_neg hn h0)
      clear hn
      go_wp2_with fail
      go_ret2
      exact ⟨⟨n, false, rfl, HN.out⟩, hb1⟩
    · by_cases h9 : s.size ≤ 9
      · have HN := Lib.hid (num9_yes hn (by omega) h9)
        have HI := Lib.hid (itoa_any n _ hf ha1)
        have HF := Lib.hid hf
        clear hn hf
        go_wp2_with fail
        refine HI.out.mono ?_
        rintro e w2 ⟨rfl, hb2⟩
        clear HI
        go_wp2_with fail
        go_ret2
        exact ⟨⟨n, _, rfl, HN.out⟩, bthen hb1 hb2⟩
      · have HN : Hid (num9 s.data.toList = none) := num9_long (by rw [Array.length_toList]; show 9 < s.size; omega)
        have h9' : (9 : Int) < (s.size : Int) := by omega
        clear hn
        go_wp2_with fail
        go_ret2
        exact ⟨⟨n, false, rfl, HN.out⟩, hb1⟩
  · have HN := Lib.hid (num9_no hn)
    clear hn
    go_wp2_with fail
    go_ret2
    exact ⟨⟨_, false, rfl, HN.out⟩, hb1⟩
end Go.Proofs.YtlkkfkkhllijbaaGreatDoor
