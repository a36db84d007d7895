/- Texts of this seat, merged. -/
import Derived.Lib.ItoaNum
import Derived.Lib.ItoaMem
import Derived.Lib.AtoiTie
import Derived.BigQuiet
import Derived.Deep.CutRange
import Derived.Deep.CutBlock
import Derived.Shelf.Strconv.ErrVarAll
import Derived.Test.YtoalecalahkblaaGreatDoorIl01
import Derived.Test.YtoalecalahkblaaGreatDoorIl02
import Derived.Test.YtoalecalahkblaaGreatDoorIl04
set_option linter.all false
set_option linter.all false
namespace Go.Proofs.YtoalecalahkblaaGreatDoor
open Go.RowKit
def escC (c : UInt8) : List UInt8 := if c.toNat = 34 ∨ c.toNat = 92 then [92, c] else [c]
def escB (l : List UInt8) : List UInt8 := l.flatMap escC
def quoteL (l : List UInt8) : List UInt8 := 34 :: (escB l ++ [34])
def quoteS (s : ByteArray) : ByteArray := ⟨(quoteL s.data.toList).toArray⟩
theorem escB_snoc {l : List UInt8} {k : Nat} {c : UInt8} (h : l[k]? = some c) : escB (l.take (k + 1)) = escB (l.take k) ++ escC c := by
  unfold escB
  rw [List.take_add_one, h, List.flatMap_append]
  simp
theorem escB_len (l : List UInt8) : (escB l).length ≤ 2 * l.length := by
  unfold escB
  induction l with
  | nil => simp
  | cons a l ih =>
    rw [List.flatMap_cons, List.length_append, List.length_cons]
    have : (escC a).length ≤ 2 := by unfold escC; split <;> simp
    omega
theorem byteOf {s : ByteArray} {k : Nat} (h : k < s.size) : s.data.toList[k]? = some s[k] := by
  rw [List.getElem?_eq_getElem (by simpa using h)]; rfl
set_option maxHeartbeats 400000 in
theorem vp_printable_any (s : ByteArray) (w : World) (hs : s.size ≤ maxLen) : Calls Tryz.prog 193 #[.string s] w fun e w' => e = .returned (.bool (plainS s)) ∧ w = w' := by
  unfold maxLen at hs
  go_enter Tryz.func193, Tryz.ntmps193
  go_wp2_with fail
  go_loop [6] (fun i => ∃ k : Nat, k ≤ s.size ∧ i = .int .i64 k ∧ ∀ j (hj : j < s.size), j < k → plainC (s.data.toList[j]'(by simpa using hj)) = true) (fun i => s.size - (intOf i).toNat)
  case atStart => exact ⟨0, Nat.zero_le _, rfl, fun j _ hj => absurd hj (by omega)⟩
  case round =>
    obtain ⟨k, hk, rfl, hp⟩ := hrel
    have HP := Lib.hid hp
    clear hp
    by_cases hlt : k < s.size
    · have HY := Lib.hid (byte_plain hlt)
      by_cases h1 : (s[k].toNat : Int) < 32
      · have HE := Lib.hid (not_plain hlt (fun h => by have := HY.out.1 h; omega))
        go_wp2_with fail
        go_ret
        exact ⟨ret_bool HE.out.symm, rfl⟩
      by_cases h2 : 126 < (s[k].toNat : Int)
      · have HE := Lib.hid (not_plain hlt (fun h => by have := HY.out.1 h; omega))
        go_wp2_with fail
        go_ret
        exact ⟨ret_bool HE.out.symm, rfl⟩
      have HQ := Lib.hid (HY.out.2 ⟨by omega, by omega⟩)
      go_wp2_with fail
      go_round
      case rel => exact ⟨k + 1, by omega, by go_num, fun j hj hjk => by
        by_cases e : j = k
        · subst e; exact HQ.out
        · exact HP.out j hj (by omega)⟩
      case measure => simp [intOf]; omega
    · have HE := Lib.hid (all_plain (s := s) (fun j hj => HP.out j hj (by omega)))
      go_wp2_with fail
      go_ret
      exact ⟨ret_bool HE.out.symm, rfl⟩
set_option maxHeartbeats 1000000 in
theorem literal_any (s : ByteArray) (w : World) (hs : s.size ≤ 1000000) : Calls Tryz.prog 194 #[.string s] w fun e w' => e = .returned (.string (quoteS s)) ∧ Below w.heap.size w w' := by
  have hb := bone w (.cells #[.pointer none, .slice none 0 0] 75)
  have hB0 := Bld.new (Blk.new w 75 #[.pointer none, .slice none 0 0]) (Nat.le_refl _)
  go_enter Tryz.func194, Tryz.ntmps194
  go_wp2_with fail
  refine (writeByte_any w.heap.size w.heap.size [] 34 _ hB0 (by simp) (by simp)).mono ?_
  rintro e w1 ⟨rfl, hB1, hb1, _⟩
  have hbw1 : Below w.heap.size w w1 := hb.trans hb1
  go_wp2_with fail
  go_loopw [8] (fun i wr => ∃ k : Nat, k ≤ s.size ∧ i = .int .i64 k ∧ Bld wr w.heap.size w.heap.size (34 :: escB (s.data.toList.take k)) ∧ Below w.heap.size w wr) (fun i _ => s.size - (intOf i).toNat)
  case atStart => exact ⟨0, Nat.zero_le _, rfl, hB1, hbw1⟩
  case round =>
    obtain ⟨k, hk, rfl, hBr, hbr⟩ := hrel
    have hsz := hbr.size
    by_cases hlt : k < s.size
    · have HN := Lib.hid (escB_snoc (byteOf hlt))
      have hle : (34 :: escB (s.data.toList.take k)).length + 3 ≤ 140737488355328 := by
        have := escB_len (s.data.toList.take k)
        rw [List.length_take] at this
        simp only [List.length_cons]
        omega
      have HU : Hid (∀ c : UInt8, escC c = if c.toNat = 34 ∨ c.toNat = 92 then [92, c] else [c]) := fun _ => rfl
      generalize hL : 34 :: escB (s.data.toList.take k) = L at *
      have HL := Lib.hid hL
      clear hL
      by_cases hq : (s[k].toNat : Int) = 34 ∨ (s[k].toNat : Int) = 92
      · have HX : Hid (34 :: escB (s.data.toList.take (k + 1)) = L ++ [92] ++ [s[k]]) := by
          show _ = _
          rw [HN.out, HU.out, if_pos (by omega), ← HL.out]; simp
        by_cases hq1 : (s[k].toNat : Int) = 34
        · have h1 : ((s[k].toNat : Int) == 34) = true := beq_iff_eq.2 hq1
          clear hq hq1
          go_wp2_with fail
          refine (writeByte_any w.heap.size w.heap.size L 92 _ hBr (by omega) hsz).mono ?_
          rintro e w2 ⟨rfl, hB2, hb2, _⟩
          have hs2 := hb2.size
          go_wp2_with fail
          refine (writeByte_any w.heap.size w.heap.size (L ++ [92]) s[k] _ hB2 (by simp; omega) (by omega)).mono ?_
          rintro e w3 ⟨rfl, hB3, hb3, _⟩
          go_wp2_with fail
          go_roundw
          case rel => exact ⟨k + 1, by omega, by go_num, by rw [HX.out]; exact hB3, (hbr.trans hb2).trans hb3⟩
          case measure => simp [intOf]; omega
        · have h1 : ((s[k].toNat : Int) == 34) = false := beq_eq_false_iff_ne.2 hq1
          have h2 : ((s[k].toNat : Int) == 92) = true := beq_iff_eq.2 (by omega)
          clear hq hq1
          go_wp2_with fail
          refine (writeByte_any w.heap.size w.heap.size L 92 _ hBr (by omega) hsz).mono ?_
          rintro e w2 ⟨rfl, hB2, hb2, _⟩
          have hs2 := hb2.size
          go_wp2_with fail
          refine (writeByte_any w.heap.size w.heap.size (L ++ [92]) s[k] _ hB2 (by simp; omega) (by omega)).mono ?_
          rintro e w3 ⟨rfl, hB3, hb3, _⟩
          go_wp2_with fail
          go_roundw
          case rel => exact ⟨k + 1, by omega, by go_num, by rw [HX.out]; exact hB3, (hbr.trans hb2).trans hb3⟩
          case measure => simp [intOf]; omega
      · have HX : Hid (34 :: escB (s.data.toList.take (k + 1)) = L ++ [s[k]]) := by
          show _ = _
          rw [HN.out, HU.out, if_neg (by omega), ← HL.out]; simp
        have h1 : ((s[k].toNat : Int) == 34) = false := beq_eq_false_iff_ne.2 (fun h => hq (Or.inl h))
        have h2 : ((s[k].toNat : Int) == 92) = false := beq_eq_false_iff_ne.2 (fun h => hq (Or.inr h))
        clear hq
        go_wp2_with fail
        refine (writeByte_any w.heap.size w.heap.size L s[k] _ hBr (by omega) hsz).mono ?_
        rintro e w3 ⟨rfl, hB3, hb3, _⟩
        go_wp2_with fail
        go_roundw
        case rel => exact ⟨k + 1, by omega, by go_num, by rw [HX.out]; exact hB3, hbr.trans hb3⟩
        case measure => simp [intOf]; omega
    · obtain rfl : k = s.size := by omega
      have HT : Hid (34 :: escB (s.data.toList.take s.size) ++ [34] = quoteL s.data.toList) := by
        show _ = _
        unfold quoteL
        rw [List.take_of_length_le (by simp)]; rfl
      have hle : (34 :: escB (s.data.toList.take s.size)).length + 3 ≤ 140737488355328 := by
        have := escB_len (s.data.toList.take s.size)
        rw [List.length_take] at this
        simp only [List.length_cons]
        omega
      generalize 34 :: escB (s.data.toList.take s.size) = L at *
      go_wp2_with fail
      refine (writeByte_any w.heap.size w.heap.size L 34 _ hBr (by omega) hsz).mono ?_
      rintro e w2 ⟨rfl, hB2, hb2, _⟩
      have hs2 := hb2.size
      go_wp2_with fail
      refine (string_any w.heap.size w.heap.size (L ++ [34]) _ hB2 (by omega)).mono ?_
      rintro e w3 ⟨rfl, hB3, hb3, _⟩
      go_wp2_with fail
      go_ret
      refine ⟨?_, (hbr.trans hb2).trans hb3⟩
      rw [HT.out]; rfl
def quoteE (s : ByteArray) : ByteArray × Int := if 16384 < s.size then (⟨#[]⟩, 5) else if plainS s then (quoteS s, 0) else (⟨#[]⟩, 3)
theorem ret_si {a b : ByteArray} {c d : Int} (h : (a, c) = (b, d)) : Ending.returned (.tuple #[.string a, .int .i64 c]) = .returned (.tuple #[.string b, .int .i64 d]) := by injection h with h1 h2; rw [h1, h2]
set_option maxHeartbeats 400000 in
theorem quote_any (s : ByteArray) (w : World) (hs : s.size ≤ maxLen) : Calls Tryz.prog 157 #[.string s] w fun e w' => e = .returned (.tuple #[.string (quoteE s).1, .int .i64 (quoteE s).2]) ∧ Below w.heap.size w w' := by
  have hs0 := hs
  unfold maxLen at hs
  go_enter Tryz.func157, Tryz.ntmps157
  by_cases h1 : 16384 < s.size
  · have HE : Hid (quoteE s = (⟨#[]⟩, 5)) := if_pos h1
    go_wp2_with fail
    go_ret2
    exact ⟨ret_si (by rw [HE.out]), Below.refl _ _⟩
  have HE : Hid (quoteE s = if plainS s then (quoteS s, 0) else (⟨#[]⟩, 3)) := if_neg h1
  go_wp2_with fail
  refine (vp_printable_any s _ hs0).mono ?_
  rintro e w1 ⟨rfl, rfl⟩
  generalize plainS s = q at *
  cases q
  · go_wp2_with fail
    go_ret2
    exact ⟨ret_si (by rw [HE.out]; rfl), Below.refl _ _⟩
  · go_wp2_with fail
    refine (literal_any s _ (by omega)).mono ?_
    rintro e w2 ⟨rfl, hb2⟩
    go_wp2_with fail
    go_ret2
    exact ⟨ret_si (by rw [HE.out]; rfl), hb2⟩
end Go.Proofs.YtoalecalahkblaaGreatDoor

set_option linter.all false
namespace Go.Proofs.YtoalecalahkblaaGreatDoor
open Go.RowKit
def trueS : ByteArray := ⟨#[116, 114, 117, 101]⟩
def falseS : ByteArray := ⟨#[102, 97, 108, 115, 101]⟩
def textV (v : Val) : ByteArray := if v.kind = 1 then (if v.n = 1 then trueS else falseS) else if v.kind = 2 then itoaS v.n else quoteS v.s
def textE (v : Val) : ByteArray × Int := if validV v then (textV v, 0) else (⟨#[]⟩, 1)
theorem valid3 {v : Val} (h : validV v = true) (h1 : v.kind ≠ 1) (h2 : v.kind ≠ 2) : v.kind = 3 ∧ v.n = 0 ∧ textB v.s = true := by
  unfold validV at h
  rw [if_neg h1, if_neg h2] at h
  split at h
  · rename_i h3
    simp only [Bool.and_eq_true, decide_eq_true_eq] at h
    exact ⟨h3, h⟩
  · cases h
theorem valid1 {v : Val} (h : validV v = true) (h1 : v.kind = 1) : (v.n = 0 ∨ v.n = 1) ∧ noS v.s = true := by
  unfold validV at h
  rw [if_pos h1] at h
  simpa using h
theorem vp_text_size {s : ByteArray} (h : textB s = true) : s.size ≤ 200 ∧ plainS s = true := by
  unfold textB at h
  simp only [Bool.and_eq_true, decide_eq_true_eq] at h
  exact h
theorem quote_of_text {s : ByteArray} (h : textB s = true) : quoteE s = (quoteS s, 0) := by
  obtain ⟨h1, h2⟩ := vp_text_size h
  unfold quoteE
  rw [if_neg (by omega), h2]; rfl
set_option maxHeartbeats 1000000 in
theorem textE_any (v : Val) (w : World) (hf : FitV v) (ha : AmbP w) :
    Calls Tryz.prog 132 #[valV v] w fun e w' => e = .returned (.tuple #[.string (textE v).1, .int .i64 (textE v).2]) ∧ Below w.heap.size w w' := by
  have hb := bone w (.cells #[.int .i64 v.kind, .int .i64 v.n, .string v.s] 121)
  have hB := Blk.new w 121 #[.int .i64 v.kind, .int .i64 v.n, .string v.s]
  have ha1 := ha.now hb
  unfold valV
  go_enter Tryz.func132, Tryz.ntmps132
  go_wp2_with fail
  refine (validV_any v _ hf).mono ?_
  rintro e w2 ⟨rfl, hb2⟩
  have hB2 := hB.now hb2
  have hbw2 := bthen hb hb2
  have ha2 := ha1.now hb2
  obtain ⟨y0, y1, y2⟩ := hB2.c3
  generalize hq : validV v = q
  have HQ := Lib.hid hq
  clear hq
  cases q
  · have HE : Hid (textE v = (⟨#[]⟩, 1)) := by show _ = _; unfold textE; rw [HQ.out]; rfl
    go_wp2_with fail
    go_ret2
    exact ⟨ret_si (by rw [HE.out]), hbw2⟩
  have HE : Hid (textE v = (textV v, 0)) := by show _ = _; unfold textE; rw [HQ.out]; rfl
  obtain ⟨k, n, s⟩ := v
  obtain ⟨g1, g2, g3⟩ := hf
  unfold Fit at g1 g2
  dsimp only at *
  by_cases k1 : k = 1
  · subst k1
    rcases (valid1 HQ.out rfl).1 with hn | hn
    · dsimp only at hn
      subst hn
      have HT : Hid (textV ⟨1, 0, s⟩ = falseS) := rfl
      go_wp2_with fail
      refine (Tryz.strconv_FormatBool _ _).mono ?_
      rintro e w3 ⟨rfl, rfl⟩
      go_wp2_with fail
      go_ret2
      exact ⟨ret_si (by rw [HE.out, HT.out]; rfl), hbw2⟩
    · dsimp only at hn
      subst hn
      have HT : Hid (textV ⟨1, 1, s⟩ = trueS) := rfl
      go_wp2_with fail
      refine (Tryz.strconv_FormatBool _ _).mono ?_
      rintro e w3 ⟨rfl, rfl⟩
      go_wp2_with fail
      go_ret2
      exact ⟨ret_si (by rw [HE.out, HT.out]; rfl), hbw2⟩
  by_cases k2 : k = 2
  · subst k2
    have HT : Hid (textV ⟨2, n, s⟩ = itoaS n) := rfl
    go_wp2_with fail
    refine (Tryz.strconv_Itoa n g2.1 g2.2 _ ha2.tab).mono ?_
    rintro e w3 ⟨rfl, kk, os, rfl⟩
    go_wp2_with fail
    go_ret2
    exact ⟨ret_si (by rw [HE.out, HT.out]; rfl), bthen hbw2 (bgrow w2 kk os)⟩
  · obtain ⟨k3, n0, ht⟩ := valid3 HQ.out k1 k2
    dsimp only at k3 n0 ht
    subst k3 n0
    have HT : Hid (textV ⟨3, 0, s⟩ = quoteS s) := rfl
    have HU := Lib.hid (quote_of_text ht)
    clear k1 k2
    go_wp2_with fail
    refine (quote_any s _ g3).mono ?_
    rintro e w3 ⟨rfl, hb3⟩
    rw [HU.out]
    go_wp2_with fail
    go_ret2
    exact ⟨ret_si (by rw [HE.out, HT.out]), bthen hbw2 hb3⟩
end Go.Proofs.YtoalecalahkblaaGreatDoor

namespace Go.Proofs.YtoalecalahkblaaGreatDoor
open Go.Lib
theorem digitVal_of {d : Nat} (h : d < 10) : digitVal (UInt8.ofNat (48 + d)) = some d := by
  unfold digitVal
  have e : (UInt8.ofNat (48 + d)).toNat = 48 + d := by
    rw [UInt8.toNat_ofNat']
    exact Nat.mod_eq_of_lt (by omega)
  rw [e, if_pos (by omega)]
  congr 1
  omega
theorem decFrom_append (l m : List UInt8) : ∀ acc, decFrom acc (l ++ m) = (decFrom acc l).bind fun n => decFrom n m := by
  induction l with
  | nil => intro acc; rfl
  | cons b r ih =>
    intro acc
    rw [List.cons_append]
    cases h : digitVal b with
    | none => simp [decFrom, h]
    | some d =>
      have e1 : decFrom acc (b :: (r ++ m)) = decFrom (acc * 10 + d) (r ++ m) := by simp only [decFrom, h]
      have e2 : decFrom acc (b :: r) = decFrom (acc * 10 + d) r := by simp only [decFrom, h]
      rw [e1, e2]
      exact ih _
theorem decFrom_digits (u : Nat) : decFrom 0 (decDigits u) = some u := by
  induction u using Nat.strongRecOn with
  | _ u ih =>
    rw [decDigits]
    by_cases h : u < 10
    · rw [dif_pos h]
      unfold decFrom
      rw [digitVal_of h]
      simp [decFrom]
    · rw [dif_neg h, decFrom_append, ih (u / 10) (by omega)]
      show decFrom (u / 10) [UInt8.ofNat (48 + u % 10)] = some u
      unfold decFrom
      rw [digitVal_of (by omega)]
      show some (u / 10 * 10 + u % 10) = some u
      congr 1
      omega
theorem decDigits_ne (u : Nat) : decDigits u ≠ [] := by
  intro h
  have := decDigits_length u
  rw [h] at this
  have := nDigits_pos u
  simp at *
  omega
theorem decNat_digits (u : Nat) : decNat (decDigits u) = some u := by
  unfold decNat
  have : (decDigits u).isEmpty = false := by
    cases h : decDigits u with
    | nil => exact absurd h (decDigits_ne u)
    | cons a l => rfl
  rw [this]
  exact decFrom_digits u
theorem decDigits_digit (u : Nat) : ∀ b ∈ decDigits u, 48 ≤ b.toNat ∧ b.toNat ≤ 57 := by
  intro b hb
  have h := decFrom_digits u
  have key : ∀ (l : List UInt8) (acc n : Nat), decFrom acc l = some n → ∀ b ∈ l, 48 ≤ b.toNat ∧ b.toNat ≤ 57 := by
    intro l
    induction l with
    | nil => intro acc n _ b hb; simp at hb
    | cons c r ih =>
      intro acc n h b hb
      unfold decFrom at h
      cases hd : digitVal c with
      | none => rw [hd] at h; cases h
      | some d =>
        rw [hd] at h
        rcases List.mem_cons.1 hb with rfl | hb
        · unfold digitVal at hd
          split at hd
          · assumption
          · cases hd
        · exact ih _ _ h b hb
  exact key _ _ _ h b hb
theorem decDigits_head (u : Nat) : ∃ c r, decDigits u = c :: r ∧ 48 ≤ c.toNat ∧ c.toNat ≤ 57 := by
  cases h : decDigits u with
  | nil => exact absurd h (decDigits_ne u)
  | cons c r => exact ⟨c, r, rfl, decDigits_digit u c (by rw [h]; simp)⟩
theorem atoi_digits (u : Nat) : atoi (decDigits u) = some (u : Int) := by
  obtain ⟨c, r, h, h1, h2⟩ := decDigits_head u
  have hd := decNat_digits u
  rw [h] at hd ⊢
  unfold atoi
  have e1 : (c == 45) = false := by rw [beq_eq_false_iff_ne]; rintro rfl; simp at h1
  have e2 : (c == 43) = false := by rw [beq_eq_false_iff_ne]; rintro rfl; simp at h1
  show (if (c == 45) = true then _ else if (c == 43) = true then _ else Option.map _ (decNat (c :: r))) = _
  rw [e1, e2, hd]
  rfl
theorem atoi_itoa (n : Int) : atoi (itoa n) = some n := by
  rcases Int.lt_or_le n 0 with h | h
  · obtain ⟨u, rfl⟩ : ∃ u : Nat, n = -(u : Int) := ⟨n.natAbs, by omega⟩
    rw [itoa_neg u (by omega)]
    unfold atoi
    have e1 : ((45 : UInt8) == 45) = true := rfl
    show (if ((45 : UInt8) == 45) = true then Option.map _ (decNat (Lib.decDigits u)) else _) = _
    rw [e1, if_pos rfl, decNat_digits]
    rfl
  · obtain ⟨u, rfl⟩ := Int.eq_ofNat_of_zero_le h
    rw [itoa_nonneg]
    exact atoi_digits u
theorem nDigits_le {u k : Nat} (hk : 1 ≤ k) (h : u < 10 ^ k) : nDigits u ≤ k := by
  rcases Nat.lt_or_ge k (nDigits u) with h1 | h1
  · exfalso
    have key : ∀ v, 2 ≤ nDigits v → 10 ^ (nDigits v - 1) ≤ v := by
      intro v
      induction v using Nat.strongRecOn with
      | _ v ih =>
        intro h2
        by_cases h10 : v < 10
        · rw [nDigits_small h10] at h2; omega
        · rw [nDigits_big h10]
          by_cases h3 : v / 10 < 10
          · rw [nDigits_small h3]; simp; omega
          · have := ih (v / 10) (by omega) (by rw [nDigits_big h3]; have := nDigits_pos (v / 10 / 10); omega)
            have e : nDigits (v / 10) + 1 - 1 = (nDigits (v / 10) - 1) + 1 := by have := nDigits_pos (v / 10); omega
            rw [e, Nat.pow_succ]
            omega
    have h2 := key u (by omega)
    have h3 : 10 ^ k ≤ 10 ^ (nDigits u - 1) := Nat.pow_le_pow_right (by omega) (by omega)
    omega
  · exact h1
theorem atoiAll_itoa {n : Int} (h1 : -100000000000000000 < n) (h2 : n < 100000000000000000) : atoiAll (itoa n) = .ok n := by
  have hl : (itoa n).length ≤ 18 := by
    rcases Int.lt_or_le n 0 with h | h
    · obtain ⟨u, rfl⟩ : ∃ u : Nat, n = -(u : Int) := ⟨n.natAbs, by omega⟩
      rw [itoa_neg u (by omega), List.length_cons, decDigits_length]
      have := nDigits_le (u := u) (k := 17) (by omega) (by omega)
      omega
    · obtain ⟨u, rfl⟩ := Int.eq_ofNat_of_zero_le h
      rw [itoa_nonneg, decDigits_length]
      have := nDigits_le (u := u) (k := 17) (by omega) (by omega)
      omega
  rw [atoiAll_short _ hl, atoi_itoa]
  rfl
end Go.Proofs.YtoalecalahkblaaGreatDoor

set_option linter.all false
namespace Go.Proofs.YtoalecalahkblaaGreatDoor
open Go.RowKit
def readB : List UInt8 → List UInt8 → Int × List UInt8 × List UInt8
  | _, [] => (4, [], [])
  | acc, c :: r =>
    if c.toNat = 34 then (0, acc, r)
    else if c.toNat = 92 then
      match r with
      | [] => (4, [], [])
      | d :: r' => if d.toNat = 34 ∨ d.toNat = 92 then readB (acc ++ [d]) r' else (3, [], [])
    else readB (acc ++ [c]) r
theorem read_nil (acc : List UInt8) : readB acc [] = (4, [], []) := rfl
theorem read_end {acc r : List UInt8} {c : UInt8} (h : c.toNat = 34) : readB acc (c :: r) = (0, acc, r) := by rw [readB.eq_def]; exact if_pos h
theorem read_bs {acc : List UInt8} {c : UInt8} (h1 : c.toNat ≠ 34) (h2 : c.toNat = 92) : readB acc [c] = (4, [], []) := by rw [readB, if_neg h1, if_pos h2]
theorem read_esc {acc r : List UInt8} {c d : UInt8} (h1 : c.toNat ≠ 34) (h2 : c.toNat = 92) (h3 : d.toNat = 34 ∨ d.toNat = 92) : readB acc (c :: d :: r) = readB (acc ++ [d]) r := by rw [readB, if_neg h1, if_pos h2, if_pos h3]
theorem read_bad {acc r : List UInt8} {c d : UInt8} (h1 : c.toNat ≠ 34) (h2 : c.toNat = 92) (h3 : ¬ (d.toNat = 34 ∨ d.toNat = 92)) : readB acc (c :: d :: r) = (3, [], []) := by rw [readB, if_neg h1, if_pos h2, if_neg h3]
theorem read_one {acc r : List UInt8} {c : UInt8} (h1 : c.toNat ≠ 34) (h2 : c.toNat ≠ 92) : readB acc (c :: r) = readB (acc ++ [c]) r := by rw [readB.eq_def]; exact (if_neg h1).trans (if_neg h2)
theorem escC_esc {c : UInt8} (h : c.toNat = 34 ∨ c.toNat = 92) : escC c = [92, c] := if_pos h
theorem escC_one {c : UInt8} (h : ¬ (c.toNat = 34 ∨ c.toNat = 92)) : escC c = [c] := if_neg h
theorem toNat_34 {c : UInt8} (h : c.toNat = 34) : c = 34 := UInt8.toNat_inj.1 h
theorem toNat_92 {c : UInt8} (h : c.toNat = 92) : c = 92 := UInt8.toNat_inj.1 h
theorem read_ok : ∀ (n : Nat) (l acc t rest : List UInt8), l.length ≤ n → readB acc l = (0, t, rest) → ∃ m, t = acc ++ m ∧ l = escB m ++ 34 :: rest := by
  intro n
  induction n with
  | zero =>
    intro l acc t rest hl h
    have : l = [] := List.eq_nil_of_length_eq_zero (by omega)
    subst this
    rw [read_nil] at h
    injection h with h _; cases h
  | succ n ih =>
    intro l acc t rest hl h
    match l, hl, h with
    | [], _, h => rw [read_nil] at h; injection h with h _; cases h
    | c :: r, hl, h =>
      by_cases h1 : c.toNat = 34
      · rw [read_end h1] at h
        injection h with _ h; injection h with h h'
        subst h h'
        exact ⟨[], by simp, by rw [toNat_34 h1]; rfl⟩
      by_cases h2 : c.toNat = 92
      · match r, hl, h with
        | [], _, h => rw [read_bs h1 h2] at h; injection h with h _; cases h
        | d :: r', hl, h =>
          by_cases h3 : d.toNat = 34 ∨ d.toNat = 92
          · rw [read_esc h1 h2 h3] at h
            obtain ⟨m, hm, hr⟩ := ih r' _ _ _ (by simp at hl; omega) h
            refine ⟨d :: m, by rw [hm, List.append_assoc]; rfl, ?_⟩
            have e : escB (d :: m) = escC d ++ escB m := by unfold escB; rw [List.flatMap_cons]
            rw [e, escC_esc h3, hr, toNat_92 h2]
            simp
          · rw [read_bad h1 h2 h3] at h; injection h with h _; cases h
      · rw [read_one h1 h2] at h
        obtain ⟨m, hm, hr⟩ := ih r _ _ _ (by simp at hl; omega) h
        refine ⟨c :: m, by rw [hm, List.append_assoc]; rfl, ?_⟩
        have e : escB (c :: m) = escC c ++ escB m := by unfold escB; rw [List.flatMap_cons]
        rw [e, escC_one (fun h => h.elim h1 h2), hr]
        simp
theorem read_len : ∀ (n : Nat) (l acc : List UInt8), l.length ≤ n → (readB acc l).2.1.length ≤ acc.length + l.length := by
  intro n
  induction n with
  | zero =>
    intro l acc hl
    have : l = [] := List.eq_nil_of_length_eq_zero (by omega)
    subst this
    rw [read_nil]; simp
  | succ n ih =>
    intro l acc hl
    match l, hl with
    | [], _ => rw [read_nil]; simp
    | c :: r, hl =>
      by_cases h1 : c.toNat = 34
      · rw [read_end h1]; simp
      by_cases h2 : c.toNat = 92
      · match r, hl with
        | [], _ => rw [read_bs h1 h2]; simp
        | d :: r', hl =>
          by_cases h3 : d.toNat = 34 ∨ d.toNat = 92
          · rw [read_esc h1 h2 h3]
            have := ih r' (acc ++ [d]) (by simp at hl; omega)
            simp at *; omega
          · rw [read_bad h1 h2 h3]; simp
      · rw [read_one h1 h2]
        have := ih r (acc ++ [c]) (by simp at hl; omega)
        simp at *; omega
def endE : Int × List UInt8 × List UInt8 → ByteArray × Int
  | (0, t, []) => if 16384 < t.length then (⟨#[]⟩, 5) else (⟨t.toArray⟩, 0)
  | (0, _, _ :: _) => (⟨#[]⟩, 3)
  | (e, _, _) => (⟨#[]⟩, e)
def headB (l : List UInt8) : Bool := match l with
  | [] => false
  | c :: _ => decide (c.toNat = 34)
def unquoteE (s : ByteArray) : ByteArray × Int :=
  if 32770 < s.size then (⟨#[]⟩, 5)
  else if headB s.data.toList && plainS s then endE (readB [] (s.data.toList.drop 1)) else (⟨#[]⟩, 3)
theorem unquote_full {s : ByteArray} (h : 32770 < s.size) : unquoteE s = (⟨#[]⟩, 5) := if_pos h
theorem unquote_form {s : ByteArray} (h : ¬ 32770 < s.size) (h' : (headB s.data.toList && plainS s) = false) : unquoteE s = (⟨#[]⟩, 3) := by unfold unquoteE; rw [if_neg h, h']; rfl
theorem unquote_read {s : ByteArray} (h : ¬ 32770 < s.size) (h' : (headB s.data.toList && plainS s) = true) : unquoteE s = endE (readB [] (s.data.toList.drop 1)) := by unfold unquoteE; rw [if_neg h, h']; rfl
theorem unquote_ok {s t : ByteArray} (h : unquoteE s = (t, 0)) : quoteS t = s := by
  unfold unquoteE at h
  split at h
  · injection h with _ h; cases h
  split at h
  · rename_i _ hh
    simp only [Bool.and_eq_true] at hh
    generalize hr : readB [] (s.data.toList.drop 1) = r at h
    obtain ⟨e, u, rest⟩ := r
    by_cases he : e = 0
    · subst he
      cases rest with
      | nil =>
        unfold endE at h
        simp only at h
        split at h
        · injection h with _ h; cases h
        · injection h with h _
          obtain ⟨m, hm, hl⟩ := read_ok _ _ _ _ _ (Nat.le_refl _) hr
          rw [List.nil_append] at hm
          subst hm
          subst h
          unfold quoteS quoteL
          simp only
          rw [← hl]
          obtain ⟨d⟩ := s
          congr 1
          apply Array.toList_inj.1
          obtain ⟨hd, _⟩ := hh
          simp only at hd ⊢
          cases hdl : d.toList with
          | nil => rw [hdl] at hd; cases hd
          | cons c l =>
            rw [hdl] at hd
            have : c.toNat = 34 := of_decide_eq_true hd
            rw [toNat_34 this]
            simp
      | cons a b => unfold endE at h; simp only at h; injection h with _ h; cases h
    · exfalso
      have : endE (e, u, rest) = (⟨#[]⟩, e) := by
        unfold endE
        split
        · rename_i h1; injection h1 with h1 _; exact absurd h1 he
        · rename_i h1; injection h1 with h1 _; exact absurd h1 he
        · rename_i h1; injection h1 with h1 _; rw [h1]
      rw [this] at h
      injection h with _ h
      exact he h
  · injection h with _ h; cases h
theorem size_list (t : ByteArray) : t.data.toList.length = t.size := Array.length_toList
def numOf (s : ByteArray) : Option Int := (okOf (Lib.atoiAll s.data.toList)).bind fun n => if numB n && decide (itoaS n = s) then some n else none
theorem num_some {s : ByteArray} {n : Int} : numOf s = some n ↔ numB n = true ∧ itoaS n = s := by
  unfold numOf
  constructor
  · intro h
    obtain ⟨m, hm, h⟩ := Option.bind_eq_some_iff.1 h
    split at h
    · rename_i hh
      injection h with h
      subst h
      simpa using hh
    · cases h
  · rintro ⟨h1, rfl⟩
    have hb : -4503599627370496 ≤ n ∧ n ≤ 4503599627370496 := by unfold numB at h1; simpa using h1
    have e : Lib.atoiAll (itoaS n).data.toList = .ok n := atoiAll_itoa (by omega) (by omega)
    rw [e]
    show (if (numB n && decide (itoaS n = itoaS n)) = true then some n else none) = some n
    rw [h1]
    simp
def txtOf (s : ByteArray) : Option ByteArray := if (unquoteE s).2 = 0 ∧ textB (unquoteE s).1 = true then some (unquoteE s).1 else none
theorem txt_some {s t : ByteArray} : txtOf s = some t ↔ unquoteE s = (t, 0) ∧ textB t = true := by
  unfold txtOf
  constructor
  · intro h
    split at h
    · rename_i hh
      injection h with h
      subst h
      exact ⟨by rw [← hh.1], hh.2⟩
    · cases h
  · rintro ⟨h1, h2⟩
    rw [h1, if_pos ⟨rfl, h2⟩]
def parseE (s : ByteArray) : Val × Int :=
  if s = trueS then (⟨1, 1, ⟨#[]⟩⟩, 0) else if s = falseS then (⟨1, 0, ⟨#[]⟩⟩, 0) else
  match numOf s with
  | some n => (⟨2, n, ⟨#[]⟩⟩, 0)
  | none => match txtOf s with
    | some t => (⟨3, 0, t⟩, 0)
    | none => (⟨0, 0, ⟨#[]⟩⟩, 3)
theorem parse_true {s : ByteArray} (h : s = trueS) : parseE s = (⟨1, 1, ⟨#[]⟩⟩, 0) := if_pos h
theorem parse_false {s : ByteArray} (h : s = falseS) : parseE s = (⟨1, 0, ⟨#[]⟩⟩, 0) := by subst h; rfl
theorem parse_num {s : ByteArray} {n : Int} (h1 : s ≠ trueS) (h2 : s ≠ falseS) (h : numOf s = some n) : parseE s = (⟨2, n, ⟨#[]⟩⟩, 0) := by unfold parseE; rw [if_neg h1, if_neg h2, h]
theorem parse_txt {s t : ByteArray} (h1 : s ≠ trueS) (h2 : s ≠ falseS) (h : numOf s = none) (h' : txtOf s = some t) : parseE s = (⟨3, 0, t⟩, 0) := by unfold parseE; rw [if_neg h1, if_neg h2, h, h']
theorem parse_none {s : ByteArray} (h1 : s ≠ trueS) (h2 : s ≠ falseS) (h : numOf s = none) (h' : txtOf s = none) : parseE s = (⟨0, 0, ⟨#[]⟩⟩, 3) := by unfold parseE; rw [if_neg h1, if_neg h2, h, h']
theorem itoa_head (n : Int) : ∃ c r, (itoaS n).data.toList = c :: r ∧ c.toNat ≠ 34 := by
  unfold itoaS
  show ∃ c r, Lib.itoa n = c :: r ∧ _
  unfold Lib.itoa
  split
  · exact ⟨45, _, rfl, by decide⟩
  · obtain ⟨c, r, h, h1, h2⟩ := decDigits_head n.toNat
    exact ⟨c, r, h, by omega⟩
theorem num_quoted {s : ByteArray} (h : headB s.data.toList = true) : numOf s = none := by
  cases hn : numOf s with
  | none => rfl
  | some n =>
    obtain ⟨_, h2⟩ := num_some.1 hn
    obtain ⟨c, r, h3, h4⟩ := itoa_head n
    rw [h2] at h3
    rw [h3] at h
    exact absurd (of_decide_eq_true h) h4
theorem txt_bare {s : ByteArray} (h : headB s.data.toList = false) : txtOf s = none := by
  cases hn : txtOf s with
  | none => rfl
  | some t =>
    obtain ⟨h1, _⟩ := txt_some.1 hn
    unfold unquoteE at h1
    rw [h] at h1
    split at h1
    · injection h1 with _ h1; cases h1
    · simp at h1
end Go.Proofs.YtoalecalahkblaaGreatDoor

set_option linter.all false
namespace Go.Proofs.YtoalecalahkblaaGreatDoor
open Go.RowKit
def IsReader (w : World) (g : Nat) (s : ByteArray) (k : Nat) : Prop := Blk w g 214 #[.string s, .int .i64 k]
theorem grown_setCell (w : World) (g k : Nat) (u : Value) : w.grownBy (w.setCell ⟨g, k, none⟩ u) (some g) :=
  ⟨rfl, rfl, rfl, by simp [World.setCell], fun i _ hi => Below.heap_setCell _ _ _ _ (fun e => hi (by simp [e]))⟩
theorem grown_trans {a b c : World} {row : Option Nat} (h : a.grownBy b row) (k : b.grownBy c row) : a.grownBy c row :=
  ⟨k.os.trans h.os, k.tape.trans h.tape, k.output.trans h.output, Nat.le_trans h.size k.size, fun i hi hr => (k.block i (Nat.lt_of_lt_of_le hi h.size) hr).trans (h.block i hi hr)⟩
theorem grown_drewN {a b : World} {row : Option Nat} (h : a.grownBy b row) (n : Nat) : a.grownBy (b.drewN n) row := ⟨h.os, h.tape, h.output, h.size, h.block⟩
theorem grown_of_belowB {a b c : World} {row : Option Nat} {B : Nat} (h : a.grownBy b row) (k : Below B b c) (hB : a.heap.size ≤ B) : a.grownBy c row :=
  ⟨k.os.trans h.os, k.tape.trans h.tape, k.output.trans h.output, Nat.le_trans h.size k.size, fun i hi hr => (k.block i (Nat.lt_of_lt_of_le hi hB)).trans (h.block i hi hr)⟩
theorem Bld.grown {w w' : World} {B b g : Nat} {l : List UInt8} (h : Bld w B b l) (hg : g < B) (hw : w.grownBy w' (some g)) : Bld w' B b l := by
  have key : ∀ p, Lib.BuilderAtF 75 5 B b p (Lib.byteCells l) w → Lib.BuilderAtF 75 5 B b p (Lib.byteCells l) w' := by
    rintro p ⟨hB, v, hbk, hown, hne⟩
    have hlt : b < w.heap.size := by
      rcases Nat.lt_or_ge b w.heap.size with h' | h'
      · exact h'
      · rw [Array.getElem?_eq_none h'] at hbk; cases hbk
    refine ⟨hB, v, (hw.block b hlt (by simp; omega)).trans hbk, hown.kept hw ?_, hne⟩
    cases e : v.ownBlock with
    | none => exact .inl rfl
    | some k => right; have := (hown.lt k e).1; simp; omega
  rcases h with h | h
  · exact .inl (key _ h)
  · exact .inr (key _ h)
set_option maxHeartbeats 400000 in
theorem vp_more_any (g : Nat) (s : ByteArray) (k : Nat) (w : World) (_hs : s.size ≤ 32770) (_hk : k ≤ s.size) (hB : IsReader w g s k) :
    Calls Tryz.prog 208 #[.pointer (some ⟨g, 0, none⟩)] w fun e w' => e = .returned (.bool (decide (k < s.size))) ∧ ∃ q, w' = w.drewN q := by
  have hB' : Blk w g 214 #[.string s, .int .i64 k] := hB
  obtain ⟨c0, c1⟩ := hB'.c2
  go_enter Tryz.func208, Tryz.ntmps208
  go_wp2_with fail
  go_quiet (fail)
  go_wp2_with fail
  go_ret
  exact ⟨rfl, _, rfl⟩
set_option maxHeartbeats 400000 in
theorem next_any_b (g : Nat) (s : ByteArray) (k : Nat) (w : World) (hs : s.size ≤ 32770) (hk : k < s.size) (hB : IsReader w g s k) :
    Calls Tryz.prog 228 #[.pointer (some ⟨g, 0, none⟩)] w fun e w' => e = .returned (.int .u8 (s[k].toNat : Int)) ∧ IsReader w' g s (k + 1) ∧ w.grownBy w' (some g) := by
  have hB' : Blk w g 214 #[.string s, .int .i64 k] := hB
  obtain ⟨c0, c1⟩ := hB'.c2
  have z1 := hB'.frozen 1
  have hB2 := hB'.set_ 1 (.int .i64 ((k : Int) + 1))
  have hg := grown_setCell w g 1 (.int .i64 ((k : Int) + 1))
  have w0 : IntKind.i64.wrap ((k : Int) + 1) = (k : Int) + 1 := IntWalk.i64_in _ (by omega)
  go_enter Tryz.func228, Tryz.ntmps228
  go_upto_region 2 with fail
  generalize w.setCell ⟨g, 1, none⟩ (.int .i64 ((k : Int) + 1)) = w1 at *
  clear c0 c1 z1
  have hB3 : Blk w1 g 214 #[.string s, .int .i64 ((k : Int) + 1)] := hB2
  obtain ⟨c0, c1⟩ := hB3.c2
  have w1' : IntKind.i64.wrap ((k : Int) + 1 - 1) = (k : Int) := by rw [IntWalk.i64_in _ (by omega)]; omega
  have i1 : (0 : Int) ≤ (k : Int) := by omega
  have i2 : (k : Int) < (s.size : Int) := by omega
  have i3 : (k : Int).toNat = k := by omega
  go_quiet (fail)
  go_wp2_with fail
  go_ret
  refine ⟨?_, ?_, grown_drewN hg _⟩
  · rfl
  · exact hB2
theorem drop_at {s : ByteArray} {k : Nat} (h : k < s.size) : s.data.toList.drop k = s[k] :: s.data.toList.drop (k + 1) := by
  rw [List.drop_eq_getElem_cons (by rw [size_list]; exact h)]; rfl
theorem drop_none {s : ByteArray} {k : Nat} (h : ¬ k < s.size) : s.data.toList.drop k = [] := List.drop_eq_nil_of_le (by rw [size_list]; omega)
theorem drop_len (s : ByteArray) {k : Nat} (h : k ≤ s.size) : s.size - (s.data.toList.drop k).length = k := by
  rw [List.length_drop]
  rw [size_list]
  omega
def LitPost (g : Nat) (s : ByteArray) (R : Int × List UInt8 × List UInt8) (w : World) (e : Ending) (w' : World) : Prop :=
  e = .returned (.tuple #[.string ⟨R.2.1.toArray⟩, .int .i64 R.1]) ∧ w.grownBy w' (some g) ∧ (R.1 = 0 → IsReader w' g s (s.size - R.2.2.length))
set_option maxHeartbeats 2000000 in
theorem lit_any (g : Nat) (s : ByteArray) (k : Nat) (w : World) (hs : s.size ≤ 32770) (hk : k ≤ s.size) (hB : IsReader w g s k) :
    Calls Tryz.prog 207 #[.pointer (some ⟨g, 0, none⟩)] w (LitPost g s (readB [] (s.data.toList.drop k)) w) := by
  have hg : g < w.heap.size := Blk.lt hB
  generalize hR : readB [] (s.data.toList.drop k) = R
  have HR := Lib.hid hR
  clear hR
  have hb0 := Bld.new (Blk.new w 75 #[.pointer none, .slice none 0 0]) (Nat.le_refl _)
  have hr0 : IsReader (w.alloc (.cells #[.pointer none, .slice none 0 0] 75)) g s k := Blk.alloc hB _
  have hgr0 : w.grownBy (w.alloc (.cells #[.pointer none, .slice none 0 0] 75)) (some g) := World.grownBy_alloc w _ _
  go_enter Tryz.func207, Tryz.ntmps207
  go_wp2_with fail
  go_loopg [] (s.size - k) (fun gg wr => ∃ (j : Nat) (L : List UInt8), s.size - j ≤ gg ∧ j ≤ s.size ∧ readB L (s.data.toList.drop j) = R ∧ L.length ≤ j ∧ IsReader wr g s j ∧ Bld wr w.heap.size w.heap.size L ∧ w.grownBy wr (some g))
  case atStart => exact ⟨k, [], Nat.le_refl _, hk, HR.out, Nat.zero_le _, hr0, hb0, hgr0⟩
  case round =>
    obtain ⟨j, L, hgk, hj, hrd, hLj, hBr, hbl, hgr⟩ := hrel
    have HRD := Lib.hid hrd
    have hszr := hgr.size
    clear hrd hr0 hb0 hgr0 HR hB
    go_wp2_with fail
    refine (vp_more_any g s j _ hs hj hBr).mono ?_
    rintro e w2 ⟨rfl, q, rfl⟩
    have hBr2 : IsReader (wr.drewN q) g s j := hBr
    have hbl2 : Bld (wr.drewN q) w.heap.size w.heap.size L := hbl
    have hgr2 : w.grownBy (wr.drewN q) (some g) := grown_drewN hgr q
    have hsz2 : w.heap.size ≤ (wr.drewN q).heap.size := hszr
    generalize wr.drewN q = w2 at *
    clear hBr hbl hgr hszr
    by_cases hlt : j < s.size
    · rw [decide_eq_true hlt]
      have hd := drop_at hlt
      have HD := Lib.hid hd
      clear hd
      go_wp2_with fail
      refine (next_any_b g s j _ hs hlt hBr2).mono ?_
      rintro e w3 ⟨rfl, hBr3, hg3⟩
      have hbl3 := hbl2.grown hg hg3
      have hgr3 := grown_trans hgr2 hg3
      have hsz3 := hgr3.size
      clear hBr2 hbl2 hgr2 hsz2
      generalize s[j] = c at *
      by_cases h34 : c.toNat = 34
      · have HE : Hid (R = (0, L, s.data.toList.drop (j + 1))) := by
          show _ = _
          rw [← HRD.out, HD.out, read_end h34]
        have b1 : ((c.toNat : Int) == 34) = true := by rw [h34]; rfl
        clear h34
        go_wp2_with fail
        refine (string_any w.heap.size w.heap.size L _ hbl3 hsz3).mono ?_
        rintro e w4 ⟨rfl, hbl4, hb4, _⟩
        go_wp2_with fail
        go_ret2
        refine ⟨ret_si (by rw [HE.out]), grown_of_belowB hgr3 hb4 (Nat.le_refl _), fun _ => ?_⟩
        rw [HE.out]
        dsimp only
        rw [drop_len s (by omega)]
        exact Blk.below hBr3 hb4 hg
      · have b1 : ((c.toNat : Int) == 34) = false := by rw [beq_eq_false_iff_ne]; omega
        by_cases h92 : c.toNat = 92
        · have b2 : ((c.toNat : Int) == 92) = true := by rw [h92]; rfl
          have HX := Lib.hid (And.intro h34 h92)
          clear h34 h92
          go_wp2_with fail
          refine (vp_more_any g s (j + 1) _ hs (by omega) hBr3).mono ?_
          rintro e w4 ⟨rfl, q, rfl⟩
          have hBr4 : IsReader (w3.drewN q) g s (j + 1) := hBr3
          have hbl4 : Bld (w3.drewN q) w.heap.size w.heap.size L := hbl3
          have hgr4 : w.grownBy (w3.drewN q) (some g) := grown_drewN hgr3 q
          generalize w3.drewN q = w4 at *
          clear hBr3 hbl3 hgr3 hsz3
          have hsz4 := hgr4.size
          by_cases hlt' : j + 1 < s.size
          · rw [decide_eq_true hlt']
            have HD' := Lib.hid (drop_at hlt')
            go_wp2_with fail
            refine (next_any_b g s (j + 1) _ hs hlt' hBr4).mono ?_
            rintro e w5 ⟨rfl, hBr5, hg5⟩
            have hbl5 := hbl4.grown hg hg5
            have hgr5 := grown_trans hgr4 hg5
            have hsz5 := hgr5.size
            clear hBr4 hbl4 hgr4 hsz4
            generalize s[j + 1] = d at *
            by_cases hd : d.toNat = 34 ∨ d.toNat = 92
            · have HE : Hid (readB (L ++ [d]) (s.data.toList.drop (j + 2)) = R) := by
                show _ = _
                rw [← HRD.out, HD.out, HD'.out, read_esc HX.out.1 HX.out.2 hd]
              rcases hd with hd | hd
              · have b3 : ((d.toNat : Int) != 34) = false := by rw [hd]; rfl
                clear hd
                go_wp2_with fail
                refine (writeByte_any w.heap.size w.heap.size L d _ hbl5 (by omega) hsz5).mono ?_
                rintro e w6 ⟨rfl, hbl6, hb6, _⟩
                go_wp2_with fail
                go_roundg (s.size - (j + 2))
                case rel => exact ⟨j + 2, L ++ [d], Nat.le_refl _, by omega, HE.out, by simp; omega, Blk.below hBr5 hb6 hg, hbl6, grown_of_belowB hgr5 hb6 (Nat.le_refl _)⟩
                case measure => omega
              · have b3 : ((d.toNat : Int) != 34) = true := by rw [hd]; rfl
                have b4 : ((d.toNat : Int) != 92) = false := by rw [hd]; rfl
                clear hd
                go_wp2_with fail
                refine (writeByte_any w.heap.size w.heap.size L d _ hbl5 (by omega) hsz5).mono ?_
                rintro e w6 ⟨rfl, hbl6, hb6, _⟩
                go_wp2_with fail
                go_roundg (s.size - (j + 2))
                case rel => exact ⟨j + 2, L ++ [d], Nat.le_refl _, by omega, HE.out, by simp; omega, Blk.below hBr5 hb6 hg, hbl6, grown_of_belowB hgr5 hb6 (Nat.le_refl _)⟩
                case measure => omega
            · have HE : Hid (R = (3, [], [])) := by
                show _ = _
                rw [← HRD.out, HD.out, HD'.out, read_bad HX.out.1 HX.out.2 hd]
              have b3 : ((d.toNat : Int) != 34) = true := by simp; omega
              have b4 : ((d.toNat : Int) != 92) = true := by simp; omega
              clear hd
              go_wp2_with fail
              go_ret2
              refine ⟨ret_si (by rw [HE.out]), hgr5, fun h => ?_⟩
              rw [HE.out] at h
              cases h
          · rw [decide_eq_false hlt']
            have HE : Hid (R = (4, [], [])) := by
              show _ = _
              rw [← HRD.out, HD.out, drop_none hlt', read_bs HX.out.1 HX.out.2]
            go_wp2_with fail
            go_ret2
            refine ⟨ret_si (by rw [HE.out]), hgr4, fun h => ?_⟩
            rw [HE.out] at h
            cases h
        · have b2 : ((c.toNat : Int) == 92) = false := by rw [beq_eq_false_iff_ne]; omega
          have HE : Hid (readB (L ++ [c]) (s.data.toList.drop (j + 1)) = R) := by
            show _ = _
            rw [← HRD.out, HD.out, read_one h34 h92]
          clear h34 h92
          go_wp2_with fail
          refine (writeByte_any w.heap.size w.heap.size L c _ hbl3 (by omega) hsz3).mono ?_
          rintro e w6 ⟨rfl, hbl6, hb6, _⟩
          go_wp2_with fail
          go_roundg (s.size - (j + 1))
          case rel => exact ⟨j + 1, L ++ [c], Nat.le_refl _, by omega, HE.out, by simp; omega, Blk.below hBr3 hb6 hg, hbl6, grown_of_belowB hgr3 hb6 (Nat.le_refl _)⟩
          case measure => omega
    · rw [decide_eq_false hlt]
      have HE : Hid (R = (4, [], [])) := by
        show _ = _
        rw [← HRD.out, drop_none hlt, read_nil]
      go_wp2_with fail
      go_ret2
      refine ⟨ret_si (by rw [HE.out]), hgr2, fun h => ?_⟩
      rw [HE.out] at h
      cases h
end Go.Proofs.YtoalecalahkblaaGreatDoor

set_option linter.all false
namespace Go.Proofs.YtoalecalahkblaaGreatDoor
open Go.RowKit
theorem Blk.set3 {w : World} {g : Nat} {t : TypeId} {a b c : Value} (h : Blk w g t #[a, b, c]) (x y z : Value) :
    Blk (((w.setCell ⟨g, 0, none⟩ x).setCell ⟨g, 1, none⟩ y).setCell ⟨g, 2, none⟩ z) g t #[x, y, z] := by
  have := ((h.set_ 0 x).set_ 1 y).set_ 2 z
  exact this
theorem bset3 {w w1 : World} {g : Nat} (h : Below w.heap.size w w1) (hg : w.heap.size ≤ g) (x y z : Value) :
    Below w.heap.size w (((w1.setCell ⟨g, 0, none⟩ x).setCell ⟨g, 1, none⟩ y).setCell ⟨g, 2, none⟩ z) :=
  ((h.setCell (p := ⟨g, 0, none⟩) hg x).setCell (p := ⟨g, 1, none⟩) hg y).setCell (p := ⟨g, 2, none⟩) hg z
theorem size_arr (t : List UInt8) : (⟨t.toArray⟩ : ByteArray).size = t.length := List.size_toArray
theorem size_nil : (⟨#[]⟩ : ByteArray).size = 0 := rfl
theorem ne_of_beq {s t : ByteArray} (h : (s.toList == t.toList) = false) : s ≠ t := by rintro rfl; simp at h
theorem eq_of_beq' {s t : ByteArray} (h : (s.toList == t.toList) = true) : s = t := by
  have h := eq_of_beq h
  rw [Lib.toList_data, Lib.toList_data] at h
  cases s; cases t
  congr 1
  exact Array.toList_inj.1 h
theorem text_check {v : Val} {s : ByteArray} (h : textE v ≠ (s, 0)) : (textE v).2 ≠ 0 ∨ (textE v).1 ≠ s := by
  rcases Classical.em ((textE v).2 = 0) with h2 | h2
  · right; intro h1; exact h (by rw [← h1, ← h2])
  · exact .inl h2
theorem parse_check_txt {s t : ByteArray} (h1 : s ≠ trueS) (h2 : s ≠ falseS) (hq : headB s.data.toList = true) (hu : unquoteE s = (t, 0)) :
    parseE s = if textE ⟨3, 0, t⟩ = (s, 0) then (⟨3, 0, t⟩, 0) else (noV, 3) := by
  have hqt := unquote_ok hu
  by_cases ht : textB t = true
  · rw [parse_txt h1 h2 (num_quoted hq) (txt_some.2 ⟨hu, ht⟩)]
    have hv : validV ⟨3, 0, t⟩ = true := by show (decide ((0 : Int) = 0) && textB t) = true; rw [ht]; rfl
    have : textE ⟨3, 0, t⟩ = (s, 0) := by
      unfold textE
      rw [hv, if_pos rfl]
      show (quoteS t, (0 : Int)) = _
      rw [hqt]
    rw [if_pos this]
  · have : txtOf s = none := by
      cases hx : txtOf s with
      | none => rfl
      | some t' =>
        obtain ⟨e1, e2⟩ := txt_some.1 hx
        rw [hu] at e1
        injection e1 with e1 _
        subst e1
        exact absurd e2 ht
    rw [parse_none h1 h2 (num_quoted hq) this]
    have hv : validV ⟨3, 0, t⟩ = false := by
      show (decide ((0 : Int) = 0) && textB t) = false
      cases hx : textB t
      · rfl
      · exact absurd hx ht
    have : textE ⟨3, 0, t⟩ ≠ (s, 0) := by
      unfold textE
      rw [hv]
      intro h; injection h with _ h; cases h
    rw [if_neg this]; rfl
theorem parse_check_bad {s : ByteArray} (h1 : s ≠ trueS) (h2 : s ≠ falseS) (hq : headB s.data.toList = true) (hu : (unquoteE s).2 ≠ 0) : parseE s = (noV, 3) := by
  have : txtOf s = none := by
    cases hx : txtOf s with
    | none => rfl
    | some t' =>
      obtain ⟨e1, e2⟩ := txt_some.1 hx
      rw [e1] at hu
      exact absurd rfl hu
  rw [parse_none h1 h2 (num_quoted hq) this]; rfl
theorem parse_check_num {s : ByteArray} {n : Int} (h1 : s ≠ trueS) (h2 : s ≠ falseS) (hq : headB s.data.toList = false) (hu : okOf (Lib.atoiAll s.data.toList) = some n) :
    parseE s = if textE ⟨2, n, ⟨#[]⟩⟩ = (s, 0) then (⟨2, n, ⟨#[]⟩⟩, 0) else (noV, 3) := by
  have hv : validV ⟨2, n, ⟨#[]⟩⟩ = numB n := by show (numB n && noS ⟨#[]⟩) = numB n; rw [show noS ⟨#[]⟩ = true by decide +kernel, Bool.and_true]
  have ht : textE ⟨2, n, ⟨#[]⟩⟩ = if numB n then (itoaS n, 0) else (⟨#[]⟩, 1) := by unfold textE; rw [hv]; rfl
  have hn : numOf s = if numB n && decide (itoaS n = s) then some n else none := by unfold numOf; rw [hu]; rfl
  rw [ht]
  by_cases hb : numB n = true
  · by_cases hs : itoaS n = s
    · rw [parse_num h1 h2 (num_some.2 ⟨hb, hs⟩), hb, if_pos rfl, if_pos (by rw [hs])]
    · rw [parse_none h1 h2 (by rw [hn, if_neg (by simp [hs])]) (txt_bare hq), hb, if_pos rfl, if_neg (by intro h; injection h with h _; exact hs h)]; rfl
  · rw [parse_none h1 h2 (by rw [hn, if_neg (by simp [hb])]) (txt_bare hq), if_neg hb, if_neg (by intro h; injection h with _ h; cases h)]; rfl
theorem parse_check_none {s : ByteArray} (h1 : s ≠ trueS) (h2 : s ≠ falseS) (hq : headB s.data.toList = false) (hu : okOf (Lib.atoiAll s.data.toList) = none) : parseE s = (noV, 3) := by
  rw [parse_none h1 h2 (by unfold numOf; rw [hu]; rfl) (txt_bare hq)]; rfl
theorem text_true : textE ⟨1, 1, ⟨#[]⟩⟩ = (trueS, 0) := by decide +kernel
theorem text_false : textE ⟨1, 0, ⟨#[]⟩⟩ = (falseS, 0) := by decide +kernel
theorem unq_size (s : ByteArray) : (unquoteE s).1.size ≤ 16384 := by
  unfold unquoteE
  split
  · show (⟨#[]⟩ : ByteArray).size ≤ 16384
    rw [size_nil]; omega
  split
  · unfold endE
    split
    · split
      · show (⟨#[]⟩ : ByteArray).size ≤ 16384
        rw [size_nil]; omega
      · show (⟨_⟩ : ByteArray).size ≤ 16384
        rw [size_arr]; omega
    · show (⟨#[]⟩ : ByteArray).size ≤ 16384
      rw [size_nil]; omega
    · show (⟨#[]⟩ : ByteArray).size ≤ 16384
      rw [size_nil]; omega
  · show (⟨#[]⟩ : ByteArray).size ≤ 16384
    rw [size_nil]; omega
theorem prefix_head (s : ByteArray) : Lib.hasPrefix s.data.toList (⟨#[34]⟩ : ByteArray).data.toList = headB s.data.toList := by
  unfold Lib.hasPrefix headB
  cases h : s.data.toList with
  | nil => rfl
  | cons c l =>
    show ((34 : UInt8) == c && List.isPrefixOf [] l) = decide (c.toNat = 34)
    have : List.isPrefixOf [] l = true := by cases l <;> rfl
    rw [this, Bool.and_true]
    rw [Bool.eq_iff_iff]
    simp only [beq_iff_eq, decide_eq_true_eq]
    constructor
    · rintro rfl; rfl
    · intro h; exact (toNat_34 h).symm
set_option maxHeartbeats 1000000 in
theorem unquote_any (s : ByteArray) (w : World) (hs : s.size ≤ maxLen) : Calls Tryz.prog 168 #[.string s] w fun e w' => e = .returned (.tuple #[.string (unquoteE s).1, .int .i64 (unquoteE s).2]) ∧ Below w.heap.size w w' := by
  have hs0 := hs
  unfold maxLen at hs
  go_enter Tryz.func168, Tryz.ntmps168
  by_cases h1 : 32770 < s.size
  · have HE := Lib.hid (unquote_full h1)
    go_wp2_with fail
    go_ret2
    exact ⟨ret_si (by rw [HE.out]), Below.refl _ _⟩
  have hp := prefix_head s
  generalize hh : headB s.data.toList = hd at hp
  have HH := Lib.hid hh
  clear hh
  have HP := Lib.hid hp
  clear hp
  go_wp2_with fail
  refine (Tryz.strings_HasPrefix s ⟨#[34]⟩ _).mono ?_
  rintro e w1 ⟨rfl, rfl⟩
  rw [HP.out]
  cases hd
  · have HE := Lib.hid (unquote_form h1 (by rw [HH.out]; rfl))
    go_wp2_with fail
    go_ret2
    exact ⟨ret_si (by rw [HE.out]), Below.refl _ _⟩
  go_wp2_with fail
  refine (vp_printable_any s _ hs0).mono ?_
  rintro e w2 ⟨rfl, rfl⟩
  generalize hq : plainS s = q
  have HQ := Lib.hid hq
  clear hq
  cases q
  · have HE := Lib.hid (unquote_form h1 (by rw [HH.out, HQ.out]; rfl))
    go_wp2_with fail
    go_ret2
    exact ⟨ret_si (by rw [HE.out]), Below.refl _ _⟩
  have HE := Lib.hid (unquote_read h1 (by rw [HH.out, HQ.out]; rfl))
  have hl1 : 1 ≤ s.size := by
    rcases Nat.lt_or_ge 0 s.size with h | h
    · exact h
    · have e0 : s.data.toList = [] := List.eq_nil_of_length_eq_zero (by rw [size_list]; omega)
      have := HH.out
      rw [e0] at this
      cases this
  have hB0 : IsReader (w1.alloc (.cells #[.string s, .int .i64 1] 214)) w1.heap.size s 1 := Blk.new w1 _ _
  have hb0 := bone w1 (.cells #[.string s, .int .i64 1] 214)
  go_wp2_with fail
  refine (lit_any w1.heap.size s 1 _ (by omega) hl1 hB0).mono ?_
  rintro e w3 ⟨rfl, hg3, hr3⟩
  have hb3 : Below w1.heap.size w1 w3 := hb0.trans (below_of_grown hg3 (by simp) (fun g hg => by injection hg with hg; omega))
  have hrl := read_len _ (s.data.toList.drop 1) [] (Nat.le_refl _)
  have hrl2 : (s.data.toList.drop 1).length ≤ s.size := by rw [List.length_drop, size_list]; omega
  generalize readB [] (s.data.toList.drop 1) = R at *
  obtain ⟨z, t, rest⟩ := R
  dsimp only at *
  by_cases hz : z = 0
  · subst hz
    have hBr := hr3 rfl
    clear hr3 hB0 hb0 hg3
    go_wp2_with fail
    refine (vp_more_any w1.heap.size s (s.size - rest.length) _ (by omega) (by omega) hBr).mono ?_
    rintro e w4 ⟨rfl, q, rfl⟩
    cases rest with
    | cons a l =>
      have HR : Hid (unquoteE s = (⟨#[]⟩, 3)) := HE.out
      rw [decide_eq_true (by simp; omega)]
      clear hBr
      go_wp2_with fail
      go_ret2
      exact ⟨ret_si (by rw [HR.out]), bdrawn hb3 _⟩
    | nil =>
      rw [decide_eq_false (by simp)]
      clear hBr
      by_cases hl : 16384 < t.length
      · have HR : Hid (unquoteE s = (⟨#[]⟩, 5)) := by show _ = _; rw [HE.out]; exact if_pos hl
        have hsz : 16384 < (⟨t.toArray⟩ : ByteArray).size := by rw [size_arr]; exact hl
        go_wp2_with fail
        go_ret2
        exact ⟨ret_si (by rw [HR.out]), bdrawn hb3 _⟩
      · have HR : Hid (unquoteE s = (⟨t.toArray⟩, 0)) := by show _ = _; rw [HE.out]; exact if_neg hl
        have hsz : (⟨t.toArray⟩ : ByteArray).size ≤ 16384 := by rw [size_arr]; omega
        go_wp2_with fail
        go_ret2
        exact ⟨ret_si (by rw [HR.out]), bdrawn hb3 _⟩
  · have HR : Hid (unquoteE s = (⟨#[]⟩, z)) := by
      show _ = _
      rw [HE.out]
      unfold endE
      split
      · rename_i h1; injection h1 with h1 _; exact absurd h1 hz
      · rename_i h1; injection h1 with h1 _; exact absurd h1 hz
      · rename_i h1; injection h1 with h1 _; rw [h1]
    have b1 : (z != 0) = true := by simpa using hz
    clear hr3 hB0 hb0 hg3 hz
    go_wp2_with fail
    go_ret2
    exact ⟨ret_si (by rw [HR.out]), hb3⟩
def BlkV (w : World) (g : Nat) (v : Val) : Prop := Blk w g 121 #[.int .i64 v.kind, .int .i64 v.n, .string v.s]
theorem head_no {s : ByteArray} (h : headB s.data.toList = false) : s.toList.isEmpty = true ∨ (s.toList.isEmpty = false ∧ ∃ h : 0 < s.size, ((s[0].toNat : Int) == 34) = false) := by
  rw [Lib.toList_data]
  by_cases h2 : 0 < s.size
  · right
    have e := drop_at (s := s) (k := 0) h2
    rw [List.drop_zero] at e
    rw [e] at h ⊢
    refine ⟨rfl, h2, ?_⟩
    have h' : ¬ (s[0].toNat = 34) := of_decide_eq_false h
    rw [beq_eq_false_iff_ne]; omega
  · left
    have e0 : s.data.toList = [] := List.eq_nil_of_length_eq_zero (by rw [size_list]; omega)
    rw [e0]; rfl
theorem head_yes {s : ByteArray} (h : headB s.data.toList = true) : s.toList.isEmpty = false ∧ ∃ h : 0 < s.size, ((s[0].toNat : Int) == 34) = true := by
  rw [Lib.toList_data]
  by_cases h2 : 0 < s.size
  · have e := drop_at (s := s) (k := 0) h2
    rw [List.drop_zero] at e
    rw [e] at h ⊢
    refine ⟨rfl, h2, ?_⟩
    have h' : s[0].toNat = 34 := of_decide_eq_true h
    rw [h']; rfl
  · have e0 : s.data.toList = [] := List.eq_nil_of_length_eq_zero (by rw [size_list]; omega)
    rw [e0] at h; cases h
theorem t_true : trueS.toList = [116, 114, 117, 101] := by rw [Lib.toList_data]; rfl
theorem t_false : falseS.toList = [102, 97, 108, 115, 101] := by rw [Lib.toList_data]; rfl
theorem fit_small (a b : Int) (ha : 0 ≤ a ∧ a ≤ 3) (hb : 0 ≤ b ∧ b ≤ 3) : FitV ⟨a, b, ⟨#[]⟩⟩ := ⟨by unfold Fit; dsimp only; omega, by unfold Fit; dsimp only; omega, by rw [size_nil]; exact Nat.zero_le _⟩
theorem put3 {w w1 : World} (hB : Blk w1 w.heap.size 121 #[.int .i64 0, .int .i64 0, .string ⟨#[]⟩]) (hC : Blk w1 (w.heap.size + 1) 121 #[.int .i64 0, .int .i64 0, .string ⟨#[]⟩]) (hb : Below w.heap.size w w1) (v : Val) :
    BlkV (((w1.setCell ⟨w.heap.size + 1, 0, none⟩ (.int .i64 v.kind)).setCell ⟨w.heap.size + 1, 1, none⟩ (.int .i64 v.n)).setCell ⟨w.heap.size + 1, 2, none⟩ (.string v.s)) w.heap.size noV ∧
    BlkV (((w1.setCell ⟨w.heap.size + 1, 0, none⟩ (.int .i64 v.kind)).setCell ⟨w.heap.size + 1, 1, none⟩ (.int .i64 v.n)).setCell ⟨w.heap.size + 1, 2, none⟩ (.string v.s)) (w.heap.size + 1) v ∧
    Below w.heap.size w (((w1.setCell ⟨w.heap.size + 1, 0, none⟩ (.int .i64 v.kind)).setCell ⟨w.heap.size + 1, 1, none⟩ (.int .i64 v.n)).setCell ⟨w.heap.size + 1, 2, none⟩ (.string v.s)) :=
  ⟨((hB.far (p := ⟨w.heap.size + 1, 0, none⟩) (by simp) _).far (p := ⟨w.heap.size + 1, 1, none⟩) (by simp) _).far (p := ⟨w.heap.size + 1, 2, none⟩) (by simp) _, hC.set3 _ _ _, bset3 hb (by omega) _ _ _⟩
def ParsePost (s : ByteArray) (w : World) (e : Ending) (w' : World) : Prop := e = .returned (.tuple #[valV (parseE s).1, .int .i64 (parseE s).2]) ∧ Below w.heap.size w w'
set_option maxHeartbeats 4000000 in
theorem parse_any (s : ByteArray) (w : World) (hs : s.size ≤ 1000000) (ha : AmbP w) : Calls Tryz.prog 144 #[.string s] w (ParsePost s w) := by
  have hb0 := bone w (.cells #[.int .i64 0, .int .i64 0, .string ⟨#[]⟩] 121)
  have hb := bbox hb0 (.cells #[.int .i64 0, .int .i64 0, .string ⟨#[]⟩] 121)
  have hB := (Blk.new w 121 #[.int .i64 0, .int .i64 0, .string ⟨#[]⟩]).alloc (.cells #[.int .i64 0, .int .i64 0, .string ⟨#[]⟩] 121)
  have hC := Blk.new_at (t := 121) (cs := #[.int .i64 0, .int .i64 0, .string ⟨#[]⟩]) (w := w.alloc (.cells #[.int .i64 0, .int .i64 0, .string ⟨#[]⟩] 121)) (s := w.heap.size + 1) (by simp)
  go_enter Tryz.func144, Tryz.ntmps144
  go_upto_block 0 with fail
  generalize hw1 : (w.alloc (.cells #[.int .i64 0, .int .i64 0, .string ⟨#[]⟩] 121)).alloc (.cells #[.int .i64 0, .int .i64 0, .string ⟨#[]⟩] 121) = w1 at *
  have ha1 := ha.now hb
  clear hw1
  go_cut [] from 11 to 46 (fun wc => ∃ v : Val, FitV v ∧ parseE s = (if textE v = (s, 0) then (v, 0) else (noV, 3)) ∧ BlkV wc w.heap.size noV ∧ BlkV wc (w.heap.size + 1) v ∧ Below w.heap.size w wc)
  case first =>
    generalize q1 : (s.toList == [116, 114, 117, 101]) = r1
    obtain ⟨y0, y1, y2⟩ := hC.c3
    obtain ⟨x0, x1, x2⟩ := hB.c3
    have z0 := hC.frozen 0
    have z1 := hC.frozen 1
    have z2 := hC.frozen 2
    have k0 := hB.frozen 0
    have k1 := hB.frozen 1
    have k2 := hB.frozen 2
    cases r1
    rotate_left
    · have e1 : s = trueS := eq_of_beq' (t := trueS) (by rw [t_true]; exact q1)
      have hS := Lib.hid (put3 hB hC hb ⟨1, 1, ⟨#[]⟩⟩)
      have HP : Hid (parseE s = (if textE ⟨1, 1, ⟨#[]⟩⟩ = (s, 0) then (⟨1, 1, ⟨#[]⟩⟩, 0) else (noV, 3))) := by
        show _ = _
        rw [parse_true e1, text_true, e1, if_pos rfl]
      clear hB hC hb e1 k0 k1 k2 x0 x1 x2
      go_wp2_with fail
      go_meet
      exact ⟨⟨1, 1, ⟨#[]⟩⟩, fit_small 1 1 (by omega) (by omega), HP.out, hS.out.1, hS.out.2.1, hS.out.2.2⟩
    have n1 : s ≠ trueS := ne_of_beq (t := trueS) (by rw [t_true]; exact q1)
    generalize q2 : (s.toList == [102, 97, 108, 115, 101]) = r2
    cases r2
    rotate_left
    · have e1 : s = falseS := eq_of_beq' (t := falseS) (by rw [t_false]; exact q2)
      have hS := Lib.hid (put3 hB hC hb ⟨1, 0, ⟨#[]⟩⟩)
      have HP : Hid (parseE s = (if textE ⟨1, 0, ⟨#[]⟩⟩ = (s, 0) then (⟨1, 0, ⟨#[]⟩⟩, 0) else (noV, 3))) := by
        show _ = _
        rw [parse_false e1, text_false, e1, if_pos rfl]
      clear hB hC hb e1 n1 k0 k1 k2 x0 x1 x2
      go_wp2_with fail
      go_meet
      exact ⟨⟨1, 0, ⟨#[]⟩⟩, fit_small 1 0 (by omega) (by omega), HP.out, hS.out.1, hS.out.2.1, hS.out.2.2⟩
    have n2 : s ≠ falseS := ne_of_beq (t := falseS) (by rw [t_false]; exact q2)
    have N := Lib.hid (And.intro n1 n2)
    clear n1 n2
    generalize hh : headB s.data.toList = hd
    have HH := Lib.hid hh
    clear hh
    cases hd
    · have HS : Hid (s.toList.isEmpty = true ∨ (s.toList.isEmpty = false ∧ ∃ h : 0 < s.size, ((s[0].toNat : Int) == 34) = false)) := head_no HH.out
      have HG : ∀ Q : Prop, (s.toList.isEmpty = true → Q) → (s.toList.isEmpty = false → ∀ h : 0 < s.size, ((s[0].toNat : Int) == 34) = false → Q) → Q := fun Q a b => HS.out.elim a (fun h => h.2.elim fun h1 h2 => b h.1 h1 h2)
      clear k0 k1 k2 x0 x1 x2 y0 y1 y2 z0 z1 z2
      have HX := Lib.hid (And.intro hB (And.intro hC hb))
      clear hB hC hb
      refine HG _ (fun s3 => ?_) (fun s3 s4 s5 => ?_)
      all_goals
        clear HG HS
        try (have s4' : (0 : Int) < (s.size : Int) := by omega)
        go_wp2_with fail
        refine (atoi_call s _ hs ha1).mono ?_
        rintro e w2 ⟨hat, hb2⟩
        obtain ⟨hB, hC, hb⟩ := HX.out
        have hB2 := hB.now hb2
        have hC2 := hC.now hb2
        have hbw2 := bthen hb hb2
        clear hB hC hb
        rcases hat with ⟨n, hn, hf, rfl⟩ | ⟨hn, z, N0, rfl⟩
        · have HP := Lib.hid (parse_check_num N.out.1 N.out.2 HH.out hn)
          have hS := Lib.hid (put3 hB2 hC2 hbw2 ⟨2, n, ⟨#[]⟩⟩)
          obtain ⟨y0, y1, y2⟩ := hC2.c3
          have z0 := hC2.frozen 0
          have z1 := hC2.frozen 1
          have z2 := hC2.frozen 2
          clear hB2 hC2 hbw2 hn
          go_wp2_with fail
          go_meet
          exact ⟨⟨2, n, ⟨#[]⟩⟩, ⟨by simp [Fit], hf, by rw [size_nil]; exact Nat.zero_le _⟩, HP.out, hS.out.1, hS.out.2.1, hS.out.2.2⟩
        · have HP := Lib.hid (parse_check_none N.out.1 N.out.2 HH.out hn)
          obtain ⟨x0, x1, x2⟩ := hB2.c3
          have k0 := hB2.frozen 0
          have k1 := hB2.frozen 1
          have k2 := hB2.frozen 2
          clear hn
          go_wp2_with fail
          obtain ⟨t0, t1, t2⟩ := (hB2.set3 (.int .i64 0) (.int .i64 0) (.string ⟨#[]⟩)).c3
          refine bodyPost_ret (v := .tuple #[.agg #[.int .i64 0, .int .i64 0, .string ⟨#[]⟩], .int .i64 3]) (by simp [results, Tryz.results144, go_sem, t0, t1, t2]) rfl ?_
          exact ⟨by rw [HP.out]; rfl, bset3 hbw2 (Nat.le_refl _) _ _ _⟩
    · obtain ⟨s3, s4, s5⟩ := head_yes HH.out
      have HX := Lib.hid (And.intro hB (And.intro hC hb))
      clear hB hC hb k0 k1 k2 x0 x1 x2 y0 y1 y2 z0 z1 z2
      have s4' : (0 : Int) < (s.size : Int) := by omega
      go_wp2_with fail
      refine (unquote_any s _ (by unfold maxLen; omega)).mono ?_
      rintro e w2 ⟨rfl, hb2⟩
      obtain ⟨hB, hC, hb⟩ := HX.out
      have hB2 := hB.now hb2
      have hC2 := hC.now hb2
      have hbw2 := bthen hb hb2
      clear hB hC hb HX
      have hus := unq_size s
      generalize hu : unquoteE s = u at *
      obtain ⟨t, z⟩ := u
      dsimp only at *
      by_cases hz : z = 0
      · subst hz
        have HP := Lib.hid (parse_check_txt N.out.1 N.out.2 HH.out hu)
        have hS := Lib.hid (put3 hB2 hC2 hbw2 ⟨3, 0, t⟩)
        obtain ⟨y0, y1, y2⟩ := hC2.c3
        have z0 := hC2.frozen 0
        have z1 := hC2.frozen 1
        have z2 := hC2.frozen 2
        clear hB2 hC2 hbw2 hu
        go_wp2_with fail
        go_meet
        exact ⟨⟨3, 0, t⟩, ⟨by simp [Fit], by simp [Fit], by unfold maxLen; show t.size ≤ _; omega⟩, HP.out, hS.out.1, hS.out.2.1, hS.out.2.2⟩
      · have HP := Lib.hid (parse_check_bad N.out.1 N.out.2 HH.out (by rw [hu]; exact hz))
        have b1 : (z != 0) = true := by simpa using hz
        obtain ⟨x0, x1, x2⟩ := hB2.c3
        have k0 := hB2.frozen 0
        have k1 := hB2.frozen 1
        have k2 := hB2.frozen 2
        clear hz hu
        go_wp2_with fail
        obtain ⟨t0, t1, t2⟩ := (hB2.set3 (.int .i64 0) (.int .i64 0) (.string ⟨#[]⟩)).c3
        refine bodyPost_ret (v := .tuple #[.agg #[.int .i64 0, .int .i64 0, .string ⟨#[]⟩], .int .i64 3]) (by simp [results, Tryz.results144, go_sem, t0, t1, t2]) rfl ?_
        exact ⟨by rw [HP.out]; rfl, bset3 hbw2 (Nat.le_refl _) _ _ _⟩
  case rest =>
    obtain ⟨v, hf, hp, hB, hC, hb⟩ := hcut
    have HP := Lib.hid hp
    clear hp
    unfold BlkV at hB hC
    have ha2 := ha.now hb
    obtain ⟨y0, y1, y2⟩ := hC.c3
    go_wp2_with fail
    refine (textE_any v _ hf ha2).mono ?_
    rintro e w4 ⟨rfl, hb4⟩
    have hB4 := hB.now hb4
    have hC4 := hC.now hb4
    have hbw4 := bthen hb hb4
    clear hB hC hb y0 y1 y2
    obtain ⟨x0, x1, x2⟩ := hB4.c3
    obtain ⟨y0, y1, y2⟩ := hC4.c3
    have k0 := hB4.frozen 0
    have k1 := hB4.frozen 1
    have k2 := hB4.frozen 2
    by_cases ht : textE v = (s, 0)
    · rw [ht]
      have HE : Hid (parseE s = (v, 0)) := by show _ = _; rw [HP.out, if_pos ht]
      clear ht
      go_wp2_with fail
      obtain ⟨t0, t1, t2⟩ := (hB4.set3 (.int .i64 v.kind) (.int .i64 v.n) (.string v.s)).c3
      refine bodyPost_ret (v := .tuple #[.agg #[.int .i64 v.kind, .int .i64 v.n, .string v.s], .int .i64 0]) (by simp [results, Tryz.results144, go_sem, t0, t1, t2]) rfl ?_
      exact ⟨by rw [HE.out]; rfl, bset3 hbw4 (Nat.le_refl _) _ _ _⟩
    · have HE : Hid (parseE s = (noV, 3)) := by show _ = _; rw [HP.out, if_neg ht]
      have hc := text_check ht
      generalize textE v = u at *
      obtain ⟨t, z⟩ := u
      dsimp only at *
      have HG : ∀ Q : Prop, ((z != 0) = true → Q) → ((z != 0) = false → (t.toList == s.toList) = false → Q) → Q := by
        intro Q a b
        by_cases hz : z = 0
        · refine b (by simpa using hz) ?_
          rcases hc with hc | hc
          · exact absurd hz hc
          · cases hq : (t.toList == s.toList)
            · rfl
            · exact absurd (eq_of_beq' hq) hc
        · exact a (by simpa using hz)
      clear hc ht
      refine HG _ (fun b1 => ?_) (fun b1 b2 => ?_)
      all_goals
        clear HG
        go_wp2_with fail
        obtain ⟨t0, t1, t2⟩ := (hB4.set3 (.int .i64 0) (.int .i64 0) (.string ⟨#[]⟩)).c3
        refine bodyPost_ret (v := .tuple #[.agg #[.int .i64 0, .int .i64 0, .string ⟨#[]⟩], .int .i64 3]) (by simp [results, Tryz.results144, go_sem, t0, t1, t2]) rfl ?_
        exact ⟨by rw [HE.out]; rfl, bset3 hbw4 (Nat.le_refl _) _ _ _⟩
end Go.Proofs.YtoalecalahkblaaGreatDoor
