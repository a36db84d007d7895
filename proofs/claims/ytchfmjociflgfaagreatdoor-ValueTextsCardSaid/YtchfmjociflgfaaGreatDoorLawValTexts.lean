/- ValueTexts: the plain law and the walk. -/
import Derived.Test.YtchfmjociflgfaaGreatDoorLawValDomains
import Derived.Test.YtchfmjociflgfaaGreatDoorParseRef
namespace Go.Proofs.YtchfmjociflgfaaGreatDoor
open Go.RowKit

theorem empty_of_noS' {s : ByteArray} (h : noS s = true) : s = ⟨#[]⟩ := by
  unfold noS at h
  have : s.toList = [] := by simpa using h
  rw [Lib.toList_data] at this
  cases s
  congr 1
  exact Array.toList_inj.1 this
theorem itoa_ne_word {n : Int} {s : ByteArray} {c : UInt8} {r : List UInt8} (hs : s.data.toList = c :: r) (hc : 58 ≤ c.toNat) : itoaS n ≠ s := by
  intro h
  have hl : (itoaS n).data.toList = c :: r := by rw [h, hs]
  unfold itoaS at hl
  have hl : Lib.itoa n = c :: r := hl
  unfold Lib.itoa at hl
  split at hl
  · injection hl with h1 _
    rw [← h1] at hc
    exact absurd hc (by decide)
  · obtain ⟨d, q, hd, h1, h2⟩ := decDigits_head n.toNat
    rw [hd] at hl
    injection hl with h3 _
    rw [h3] at h2
    omega
theorem quote_ne_word {t s : ByteArray} {c : UInt8} {r : List UInt8} (hs : s.data.toList = c :: r) (hc : 58 ≤ c.toNat) : quoteS t ≠ s := by
  intro h
  have hl : (quoteS t).data.toList = c :: r := by rw [h, hs]
  have hl : quoteL t.data.toList = c :: r := hl
  unfold quoteL at hl
  injection hl with h1 _
  rw [← h1] at hc
  exact absurd hc (by decide)
/-- A value is read from its text. -/
theorem parse_text {v : Val} (h : validV v = true) : parseE (textV v) = (v, 0) := by
  obtain ⟨k, n, s⟩ := v
  by_cases k1 : k = 1
  · subst k1
    obtain ⟨hn, hs⟩ := valid1 h rfl
    dsimp only at hn hs
    have := empty_of_noS' hs
    subst this
    rcases hn with rfl | rfl
    · exact parse_false (s := falseS) rfl
    · exact parse_true (s := trueS) rfl
  by_cases k2 : k = 2
  · subst k2
    obtain ⟨hn, hs⟩ := valid2 h rfl
    dsimp only at hn hs
    have := empty_of_noS' hs
    subst this
    exact parse_num (s := itoaS n) (itoa_ne_word (s := trueS) rfl (by decide)) (itoa_ne_word (s := falseS) rfl (by decide)) (num_some.2 ⟨hn, rfl⟩)
  · obtain ⟨k3, n0, ht⟩ := valid3 h k1 k2
    dsimp only at k3 n0 ht
    subst k3 n0
    obtain ⟨h1, h2⟩ := text_size ht
    exact parse_txt (s := quoteS s) (quote_ne_word (s := trueS) rfl (by decide)) (quote_ne_word (s := falseS) rfl (by decide)) (num_quoted rfl) (txt_some.2 ⟨unquote_quote h2 h1, ht⟩)
theorem parse_ends (s : ByteArray) : (parseE s).2 = 0 ∨ ((parseE s).1 = noV ∧ (parseE s).2 = 3) := by
  unfold parseE
  split
  · exact .inl rfl
  split
  · exact .inl rfl
  split
  · exact .inl rfl
  · split
    · exact .inl rfl
    · exact .inr ⟨rfl, rfl⟩
theorem text_small {v : Val} (h : validV v = true) (hf : FitV v) : (textV v).size ≤ 1000000 := by
  obtain ⟨k, n, s⟩ := v
  by_cases k1 : k = 1
  · subst k1
    show (if n = 1 then trueS else falseS).size ≤ 1000000
    split
    · show 4 ≤ 1000000; omega
    · show 5 ≤ 1000000; omega
  by_cases k2 : k = 2
  · subst k2
    have := dec_size (n := n) hf.n
    show (decS n).size ≤ 1000000
    omega
  · obtain ⟨k3, n0, ht⟩ := valid3 h k1 k2
    dsimp only at k3 n0 ht
    subst k3 n0
    have h1 := (text_size ht).1
    have h2 := quote_size s
    show (quoteS s).size ≤ 1000000
    omega
theorem parse_fits (s : ByteArray) : FitV (parseE s).1 := by
  unfold parseE
  split
  · exact fit_small 1 1 (by omega) (by omega)
  split
  · exact fit_small 1 0 (by omega) (by omega)
  split
  · rename_i n hn
    obtain ⟨h1, _⟩ := num_some.1 hn
    have hb : -4503599627370496 ≤ n ∧ n ≤ 4503599627370496 := by unfold numB at h1; simpa using h1
    exact ⟨by unfold Fit; dsimp only; omega, by unfold Fit; dsimp only; omega, by rw [size_nil]; exact Nat.zero_le _⟩
  · split
    · rename_i t ht
      obtain ⟨h1, _⟩ := txt_some.1 ht
      have := unq_size s
      rw [h1] at this
      dsimp only at this
      exact ⟨by unfold Fit; dsimp only; omega, by unfold Fit; dsimp only; omega, by dsimp only; unfold maxLen; omega⟩
    · exact fit_small 0 0 (by omega) (by omega)

set_option maxHeartbeats 8000000 in
set_option maxRecDepth 100000 in
theorem valueTexts_law (v : Val) (s : ByteArray) (w : World) (hf : FitV v) (hs : s.size ≤ maxLen) (ha : Amb w) :
    Calls Tryz.prog 4 #[valV v, .string s] w fun e w' => e = .returned (.bool true) ∧ Below w.heap.size w w' := by
  unfold maxLen at hs
  have hb := bone w (.cells #[.int .i64 v.kind, .int .i64 v.n, .string v.s] 23)
  have hB := Blk.new w 23 #[.int .i64 v.kind, .int .i64 v.n, .string v.s]
  unfold valV
  go_enter Tryz.func4, Tryz.ntmps4
  go_wp2_with fail
  refine (awake_any _ (ha.now hb)).mono ?_
  rintro e w1 ⟨rfl, hb1⟩
  have hbw1 := bthen hb hb1
  have hB1 := hB.now hb1
  obtain ⟨y0, y1, y2⟩ := hB1.c3
  have hs2 := slOne w1 v hf
  have hb2 := bone w1 (.cells #[.int .i64 v.kind, .int .i64 v.n, .string v.s] 23)
  have hbw2 := bthen hbw1 hb2
  have hB2 := hB1.now hb2
  have l1 := hB1.lt
  go_wp2_with fail
  refine (long_any [] [v] _ _ _ Sl.none_ hs2).mono ?_
  rintro e w3 ⟨q, rfl, hq, hb3⟩
  clear hq
  have hbw3 := bthen hbw2 hb3
  have hB3 := hB2.now hb3
  clear y0 y1 y2 hs2 hb2 hb3 l1 hB1 hB hB2
  cases q
  rotate_left
  · go_wp2_with fail
    go_ret
    exact ⟨rfl, hbw3⟩
  by_cases hsz : 500 < s.size
  · go_wp2_with fail
    go_ret
    exact ⟨rfl, hbw3⟩
  go_wp2_with fail
  refine (parse_any s _ (by omega) (ha.now hbw3)).mono ?_
  rintro e w4 ⟨rfl, hb4⟩
  have hbw4 := bthen hbw3 hb4
  have hB4 := hB3.now hb4
  have hpe := parse_ends s
  have hpf := parse_fits s
  have HPR := Lib.hid (fun W => parse_ref s W (by omega))
  unfold ParseRPost at HPR
  generalize parseE s = p at *
  obtain ⟨x, z⟩ := p
  dsimp only at *
  unfold valV at HPR ⊢
  have hb5 := bone w4 (.cells #[.int .i64 x.kind, .int .i64 x.n, .string x.s] 23)
  have hX5 := Blk.new w4 23 #[.int .i64 x.kind, .int .i64 x.n, .string x.s]
  have hbw5 := bthen hbw4 hb5
  have hB5 := hB4.now hb5
  go_upto_region 6 with fail
  generalize hw5 : w4.alloc (.cells #[.int .i64 x.kind, .int .i64 x.n, .string x.s] 23) = w5 at *
  go_wp2_with fail
  refine (HPR.out _).mono ?_
  rintro e w6 ⟨rfl, hb6⟩
  have hbw6 := bthen hbw5 hb6
  have hB6 := hB5.now hb6
  have hX6 := hX5.now hb6
  have hb7 := bone w6 (.cells #[.int .i64 x.kind, .int .i64 x.n, .string x.s] 23)
  have hY7 := Blk.new w6 23 #[.int .i64 x.kind, .int .i64 x.n, .string x.s]
  have hX7 := hX6.now hb7
  have hB7 := hB6.now hb7
  have hbw7 := bthen hbw6 hb7
  have l2 := hX7.lt
  have hneq := fun W => run_neV W x x
  rw [decide_eq_true rfl] at hneq
  have HCC : Hid (∀ (p : Prop), (z = 0 → p) → (z = 3 → p) → p) := fun p a b => hpe.elim a (fun h => b h.2)
  clear hw5 hX5 hB5 hX6 hB6 hb7 HPR hpe hB4 hB3
  go_upto_region 7 with fail
  generalize hw7 : w6.alloc (.cells #[.int .i64 x.kind, .int .i64 x.n, .string x.s] 23) = w7 at *
  clear hw7
  obtain ⟨x0, x1, x2⟩ := hX7.c3
  obtain ⟨z0, z1, z2⟩ := hY7.c3
  obtain ⟨y0, y1, y2⟩ := hB7.c3
  refine HCC.out _ (fun hz => ?_) (fun hz => ?_)
  all_goals
    subst hz
    clear HCC
    go_upto_region 9 with fail
    clear x0 x1 x2 z0 z1 z2 hX7 hY7 l2 hneq
    go_wp2_with fail
    have htx := textE_any v w7 hf (ha.now hbw7)
    unfold valV at htx
    refine htx.mono ?_
    clear htx
    rintro e w8 ⟨rfl, hb8⟩
    have hbw8 := bthen hbw7 hb8
    have hB8 := hB7.now hb8
    clear y0 y1 y2
    obtain ⟨y0, y1, y2⟩ := hB8.c3
    go_wp2_with fail
    have hvr := validV_ref v w8 hf
    unfold valV at hvr
    refine hvr.mono ?_
    clear hvr
    rintro e w9 ⟨rfl, hb9⟩
    have hbw9 := bthen hbw8 hb9
    have hB9 := hB8.now hb9
    clear y0 y1 y2
    generalize hqv : validV v = qv
    have HV := Lib.hid hqv
    clear hqv
    cases qv
    · have e1 : textE v = (⟨#[]⟩, 1) := by unfold textE; rw [HV.out]; rfl
      rw [e1]
      clear e1
      go_wp2_with fail
      go_ret
      exact ⟨rfl, hbw9⟩
    have e1 : textE v = (textV v, 0) := by unfold textE; rw [HV.out]; rfl
    rw [e1]
    dsimp only
    clear e1
    have hsm := text_small HV.out hf
    have hpt := parse_text HV.out
    have HTR := Lib.hid (fun W => textV_ref v W hf HV.out)
    have HPT := Lib.hid (fun W h => parse_any (textV v) W hsm h)
    unfold ParsePost at HPT
    rw [hpt] at HPT
    clear hpt
    unfold valV at HTR HPT
    generalize textV v = t at *
    go_wp2_with fail
    refine (HPT.out _ (ha.now hbw9)).mono ?_
    rintro e w10 ⟨rfl, hb10⟩
    have hbw10 := bthen hbw9 hb10
    have hB10 := hB9.now hb10
    have hb11 := bone w10 (.cells #[.int .i64 v.kind, .int .i64 v.n, .string v.s] 23)
    have hY11 := Blk.new w10 23 #[.int .i64 v.kind, .int .i64 v.n, .string v.s]
    have hB11 := hB10.now hb11
    have hbw11 := bthen hbw10 hb11
    go_upto_region 13 with fail
    generalize hw11 : w10.alloc (.cells #[.int .i64 v.kind, .int .i64 v.n, .string v.s] 23) = w11 at *
    clear hw11
    obtain ⟨y0, y1, y2⟩ := hB11.c3
    obtain ⟨z0, z1, z2⟩ := hY11.c3
    have heq := fun W => run_eqV W v v
    rw [decide_eq_true rfl] at heq
    go_wp2_with fail
    refine (HTR.out _).mono ?_
    rintro e w12 ⟨rfl, hb12⟩
    have hbw12 := bthen hbw11 hb12
    have hB12 := hB11.now hb12
    have hY12 := hY11.now hb12
    clear y0 y1 y2 z0 z1 z2
    obtain ⟨y0, y1, y2⟩ := hB12.c3
    obtain ⟨z0, z1, z2⟩ := hY12.c3
    go_wp2_with fail
    go_ret
    exact ⟨rfl, hbw12⟩
end Go.Proofs.YtchfmjociflgfaaGreatDoor
