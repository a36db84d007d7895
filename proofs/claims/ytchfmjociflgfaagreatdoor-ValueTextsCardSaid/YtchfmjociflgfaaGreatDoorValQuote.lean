/- name.printable, name.literal, name.Quote and the reference's. -/
import Derived.Test.YtchfmjociflgfaaGreatDoorValValid
import Derived.Test.YtchfmjociflgfaaGreatDoorBuilderB
namespace Go.Proofs.YtchfmjociflgfaaGreatDoor
open Go.RowKit

def escC (c : UInt8) : List UInt8 := if c.toNat = 34 ∨ c.toNat = 92 then [92, c] else [c]
def escB (l : List UInt8) : List UInt8 := l.flatMap escC
def quoteL (l : List UInt8) : List UInt8 := 34 :: (escB l ++ [34])
def quoteS (s : ByteArray) : ByteArray := ⟨(quoteL s.data.toList).toArray⟩
theorem escB_snoc {l : List UInt8} {k : Nat} {c : UInt8} (h : l[k]? = some c) : escB (l.take (k + 1)) = escB (l.take k) ++ escC c := by
  unfold escB
  rw [List.take_add_one, h, List.flatMap_append]
  simp
theorem escB_len (l : List UInt8) : (escB l).length ≤ 2 * l.length := by
  unfold escB
  induction l with
  | nil => simp
  | cons a l ih =>
    rw [List.flatMap_cons, List.length_append, List.length_cons]
    have : (escC a).length ≤ 2 := by unfold escC; split <;> simp
    omega
theorem byteOf {s : ByteArray} {k : Nat} (h : k < s.size) : s.data.toList[k]? = some s[k] := by
  rw [List.getElem?_eq_getElem (by simpa using h)]; rfl

set_option maxHeartbeats 400000 in
theorem printable_any (s : ByteArray) (w : World) (hs : s.size ≤ maxLen) : Calls Tryz.prog 83 #[.string s] w fun e w' => e = .returned (.bool (plainS s)) ∧ w = w' := by
  unfold maxLen at hs
  go_enter Tryz.func83, Tryz.ntmps83
  go_wp2_with fail
  go_loop [6] (fun i => ∃ k : Nat, k ≤ s.size ∧ i = .int .i64 k ∧ ∀ j (hj : j < s.size), j < k → plainC (s.data.toList[j]'(by simpa using hj)) = true) (fun i => s.size - (intOf i).toNat)
  case atStart => exact ⟨0, Nat.zero_le _, rfl, fun j _ hj => absurd hj (by omega)⟩
  case round =>
    obtain ⟨k, hk, rfl, hp⟩ := hrel
    have HP := Lib.hid hp
    clear hp
    by_cases hlt : k < s.size
    · have HY := Lib.hid (byte_plain hlt)
      by_cases h1 : (s[k].toNat : Int) < 32
      · have HE := Lib.hid (not_plain hlt (fun h => by have := HY.out.1 h; omega))
        go_wp2_with fail
        go_ret
        exact ⟨ret_bool HE.out.symm, rfl⟩
      by_cases h2 : 126 < (s[k].toNat : Int)
      · have HE := Lib.hid (not_plain hlt (fun h => by have := HY.out.1 h; omega))
        go_wp2_with fail
        go_ret
        exact ⟨ret_bool HE.out.symm, rfl⟩
      have HQ := Lib.hid (HY.out.2 ⟨by omega, by omega⟩)
      go_wp2_with fail
      go_round
      case rel => exact ⟨k + 1, by omega, by go_num, fun j hj hjk => by
        by_cases e : j = k
        · subst e; exact HQ.out
        · exact HP.out j hj (by omega)⟩
      case measure => simp [intOf]; omega
    · have HE := Lib.hid (all_plain (s := s) (fun j hj => HP.out j hj (by omega)))
      go_wp2_with fail
      go_ret
      exact ⟨ret_bool HE.out.symm, rfl⟩

set_option maxHeartbeats 1000000 in
theorem literal_any (s : ByteArray) (w : World) (hs : s.size ≤ 1000000) : Calls Tryz.prog 91 #[.string s] w fun e w' => e = .returned (.string (quoteS s)) ∧ Below w.heap.size w w' := by
  have hb := bone w (.cells #[.pointer none, .slice none 0 0] 126)
  have hB0 := Bld.new (Blk.new w 126 #[.pointer none, .slice none 0 0]) (Nat.le_refl _)
  go_enter Tryz.func91, Tryz.ntmps91
  go_wp2_with fail
  refine (writeByte_any w.heap.size w.heap.size [] 34 _ hB0 (by simp) (by simp)).mono ?_
  rintro e w1 ⟨rfl, hB1, hb1, _⟩
  have hbw1 : Below w.heap.size w w1 := hb.trans hb1
  go_wp2_with fail
  go_loopw [8] (fun i wr => ∃ k : Nat, k ≤ s.size ∧ i = .int .i64 k ∧ Bld wr w.heap.size w.heap.size (34 :: escB (s.data.toList.take k)) ∧ Below w.heap.size w wr) (fun i _ => s.size - (intOf i).toNat)
  case atStart => exact ⟨0, Nat.zero_le _, rfl, hB1, hbw1⟩
  case round =>
    obtain ⟨k, hk, rfl, hBr, hbr⟩ := hrel
    have hsz := hbr.size
    by_cases hlt : k < s.size
    · have HN := Lib.hid (escB_snoc (byteOf hlt))
      have hle : (34 :: escB (s.data.toList.take k)).length + 3 ≤ 140737488355328 := by
        have := escB_len (s.data.toList.take k)
        rw [List.length_take] at this
        simp only [List.length_cons]
        omega
      have HU : Hid (∀ c : UInt8, escC c = if c.toNat = 34 ∨ c.toNat = 92 then [92, c] else [c]) := fun _ => rfl
      generalize hL : 34 :: escB (s.data.toList.take k) = L at *
      have HL := Lib.hid hL
      clear hL
      by_cases hq : (s[k].toNat : Int) = 34 ∨ (s[k].toNat : Int) = 92
      · have HX : Hid (34 :: escB (s.data.toList.take (k + 1)) = L ++ [92] ++ [s[k]]) := by
          show _ = _
          rw [HN.out, HU.out, if_pos (by omega), ← HL.out]; simp
        by_cases hq1 : (s[k].toNat : Int) = 34
        · have h1 : ((s[k].toNat : Int) == 34) = true := beq_iff_eq.2 hq1
          clear hq hq1
          go_wp2_with fail
          refine (writeByte_any w.heap.size w.heap.size L 92 _ hBr (by omega) hsz).mono ?_
          rintro e w2 ⟨rfl, hB2, hb2, _⟩
          have hs2 := hb2.size
          go_wp2_with fail
          refine (writeByte_any w.heap.size w.heap.size (L ++ [92]) s[k] _ hB2 (by simp; omega) (by omega)).mono ?_
          rintro e w3 ⟨rfl, hB3, hb3, _⟩
          go_wp2_with fail
          go_roundw
          case rel => exact ⟨k + 1, by omega, by go_num, by rw [HX.out]; exact hB3, (hbr.trans hb2).trans hb3⟩
          case measure => simp [intOf]; omega
        · have h1 : ((s[k].toNat : Int) == 34) = false := beq_eq_false_iff_ne.2 hq1
          have h2 : ((s[k].toNat : Int) == 92) = true := beq_iff_eq.2 (by omega)
          clear hq hq1
          go_wp2_with fail
          refine (writeByte_any w.heap.size w.heap.size L 92 _ hBr (by omega) hsz).mono ?_
          rintro e w2 ⟨rfl, hB2, hb2, _⟩
          have hs2 := hb2.size
          go_wp2_with fail
          refine (writeByte_any w.heap.size w.heap.size (L ++ [92]) s[k] _ hB2 (by simp; omega) (by omega)).mono ?_
          rintro e w3 ⟨rfl, hB3, hb3, _⟩
          go_wp2_with fail
          go_roundw
          case rel => exact ⟨k + 1, by omega, by go_num, by rw [HX.out]; exact hB3, (hbr.trans hb2).trans hb3⟩
          case measure => simp [intOf]; omega
      · have HX : Hid (34 :: escB (s.data.toList.take (k + 1)) = L ++ [s[k]]) := by
          show _ = _
          rw [HN.out, HU.out, if_neg (by omega), ← HL.out]; simp
        have h1 : ((s[k].toNat : Int) == 34) = false := beq_eq_false_iff_ne.2 (fun h => hq (Or.inl h))
        have h2 : ((s[k].toNat : Int) == 92) = false := beq_eq_false_iff_ne.2 (fun h => hq (Or.inr h))
        clear hq
        go_wp2_with fail
        refine (writeByte_any w.heap.size w.heap.size L s[k] _ hBr (by omega) hsz).mono ?_
        rintro e w3 ⟨rfl, hB3, hb3, _⟩
        go_wp2_with fail
        go_roundw
        case rel => exact ⟨k + 1, by omega, by go_num, by rw [HX.out]; exact hB3, hbr.trans hb3⟩
        case measure => simp [intOf]; omega
    · obtain rfl : k = s.size := by omega
      have HT : Hid (34 :: escB (s.data.toList.take s.size) ++ [34] = quoteL s.data.toList) := by
        show _ = _
        unfold quoteL
        rw [List.take_of_length_le (by simp)]; rfl
      have hle : (34 :: escB (s.data.toList.take s.size)).length + 3 ≤ 140737488355328 := by
        have := escB_len (s.data.toList.take s.size)
        rw [List.length_take] at this
        simp only [List.length_cons]
        omega
      generalize 34 :: escB (s.data.toList.take s.size) = L at *
      go_wp2_with fail
      refine (writeByte_any w.heap.size w.heap.size L 34 _ hBr (by omega) hsz).mono ?_
      rintro e w2 ⟨rfl, hB2, hb2, _⟩
      have hs2 := hb2.size
      go_wp2_with fail
      refine (string_any w.heap.size w.heap.size (L ++ [34]) _ hB2 (by omega)).mono ?_
      rintro e w3 ⟨rfl, hB3, hb3, _⟩
      go_wp2_with fail
      go_ret
      refine ⟨?_, (hbr.trans hb2).trans hb3⟩
      rw [HT.out]; rfl

def quoteE (s : ByteArray) : ByteArray × Int := if 16384 < s.size then (⟨#[]⟩, 5) else if plainS s then (quoteS s, 0) else (⟨#[]⟩, 3)
theorem ret_si {a b : ByteArray} {c d : Int} (h : (a, c) = (b, d)) : Ending.returned (.tuple #[.string a, .int .i64 c]) = .returned (.tuple #[.string b, .int .i64 d]) := by injection h with h1 h2; rw [h1, h2]
set_option maxHeartbeats 400000 in
theorem quote_any (s : ByteArray) (w : World) (hs : s.size ≤ maxLen) : Calls Tryz.prog 60 #[.string s] w fun e w' => e = .returned (.tuple #[.string (quoteE s).1, .int .i64 (quoteE s).2]) ∧ Below w.heap.size w w' := by
  have hs0 := hs
  unfold maxLen at hs
  go_enter Tryz.func60, Tryz.ntmps60
  by_cases h1 : 16384 < s.size
  · have HE : Hid (quoteE s = (⟨#[]⟩, 5)) := if_pos h1
    go_wp2_with fail
    go_ret2
    exact ⟨ret_si (by rw [HE.out]), Below.refl _ _⟩
  have HE : Hid (quoteE s = if plainS s then (quoteS s, 0) else (⟨#[]⟩, 3)) := if_neg h1
  go_wp2_with fail
  refine (printable_any s _ hs0).mono ?_
  rintro e w1 ⟨rfl, rfl⟩
  generalize plainS s = q at *
  cases q
  · go_wp2_with fail
    go_ret2
    exact ⟨ret_si (by rw [HE.out]; rfl), Below.refl _ _⟩
  · go_wp2_with fail
    refine (literal_any s _ (by omega)).mono ?_
    rintro e w2 ⟨rfl, hb2⟩
    go_wp2_with fail
    go_ret2
    exact ⟨ret_si (by rw [HE.out]; rfl), hb2⟩
end Go.Proofs.YtchfmjociflgfaaGreatDoor
