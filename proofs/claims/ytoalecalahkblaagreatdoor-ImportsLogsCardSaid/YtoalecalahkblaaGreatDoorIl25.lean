/- Texts of this seat, merged. -/
import Derived.Deep.CutRange
import Derived.Lib.Replace
import Derived.Lib.IndexLaws
import Derived.StillTailTactics
import Derived.RegionTactic
import Derived.Deep.CutBlock
import Derived.Test.YtoalecalahkblaaGreatDoorIl01
import Derived.Test.YtoalecalahkblaaGreatDoorIl02
import Derived.Test.YtoalecalahkblaaGreatDoorIl03
import Derived.Test.YtoalecalahkblaaGreatDoorIl04
import Derived.Test.YtoalecalahkblaaGreatDoorIl06
import Derived.Test.YtoalecalahkblaaGreatDoorIl07
import Derived.Test.YtoalecalahkblaaGreatDoorIl23
import Derived.Test.YtoalecalahkblaaGreatDoorIl24
set_option linter.all false
set_option linter.all false
namespace Go.Proofs.YtoalecalahkblaaGreatDoor
open Go.RowKit
theorem logB_eq (l : List Ev) : logB l = (decide (l.length ≤ 2000) && (List.range l.length).all (evAt l)) := rfl
theorem evAt_zero {l : List Ev} {f : Ev} (h : l[0]? = some f) : evAt l 0 = evB f := by unfold evAt; rw [h]; simp
theorem evAt_succ {l : List Ev} {k : Nat} {f g : Ev} (h : l[k + 1]? = some f) (hg : l[k]? = some g) : evAt l (k + 1) = (evB f && decide (g.time ≤ f.time)) := by
  unfold evAt; rw [h]; simp [hg]
theorem evAt_bad {l : List Ev} {k : Nat} {f : Ev} (h : l[k]? = some f) (hb : evB f = false) : evAt l k = false := by
  unfold evAt; rw [h]; simp only [hb, Bool.false_and]
theorem lt_not_le (a b : Int) : decide (a < b) = !decide (b ≤ a) := by
  by_cases h : a < b
  · rw [decide_eq_true h, decide_eq_false (by omega)]; rfl
  · rw [decide_eq_false h, decide_eq_true (by omega)]; rfl
end Go.Proofs.YtoalecalahkblaaGreatDoor

set_option linter.all false
namespace Go.Proofs.YtoalecalahkblaaGreatDoor
open Go.RowKit
theorem idx_hitQ {p r : List UInt8} {c : UInt8} (h1 : ∀ b ∈ p, b ≠ c) : Lib.index (p ++ c :: r) [c] = (p.length : Int) := by
  refine Lib.index_first (i := p.length) (by simp) ?_ ?_
  · simp [Lib.occAt]
  · intro j hj
    have hne : p[j] ≠ c := h1 _ (List.getElem_mem hj)
    have hd : (p ++ c :: r).drop j = p[j] :: (p ++ c :: r).drop (j + 1) := by
      rw [List.drop_eq_getElem_cons (by simp; omega)]
      congr 1
      rw [List.getElem_append_left hj]
    unfold Lib.occAt
    rw [hd]
    have : (c == p[j]) = false := by simp [hne.symm]
    rw [List.isPrefixOf, this]; rfl
theorem idx_missQ {l : List UInt8} {c : UInt8} (h : ∀ b ∈ l, b ≠ c) : Lib.index l [c] = -1 := by
  refine Lib.index_none fun j hj => ?_
  unfold Lib.occAt
  rcases Nat.lt_or_ge j l.length with h1 | h1
  · rw [List.drop_eq_getElem_cons h1, List.isPrefixOf]
    have : (c == l[j]) = false := by simp [(h _ (List.getElem_mem h1)).symm]
    rw [this]; rfl
  · rw [List.drop_eq_nil_of_le h1]; rfl
theorem splitQ (c : UInt8) : ∀ l : List UInt8, (∀ b ∈ l, b ≠ c) ∨ ∃ p r, l = p ++ c :: r ∧ ∀ b ∈ p, b ≠ c
  | [] => .inl fun b hb => by cases hb
  | b :: l => by
    by_cases h : b = c
    · exact .inr ⟨[], l, by rw [h]; rfl, fun x hx => by cases hx⟩
    · rcases splitQ c l with h1 | ⟨p, r, rfl, h1⟩
      · exact .inl fun x hx => by
          rcases List.mem_cons.1 hx with rfl | hx
          · exact h
          · exact h1 x hx
      · exact .inr ⟨b :: p, r, rfl, fun x hx => by
          rcases List.mem_cons.1 hx with rfl | hx
          · exact h
          · exact h1 x hx⟩
theorem quoteB_none : ∀ {l : Bt}, (∀ b ∈ l, b ≠ 34) → quoteB l = l
  | [], _ => rfl
  | b :: l, h => by
    unfold quoteB
    rw [if_neg (h b List.mem_cons_self), quoteB_none fun x hx => h x (List.mem_cons_of_mem _ hx)]
theorem quoteB_append : ∀ (p r : Bt), quoteB (p ++ r) = quoteB p ++ quoteB r
  | [], _ => rfl
  | b :: p, r => by
    have ih := quoteB_append p r
    show (if b = 34 then 34 :: 34 :: quoteB (p ++ r) else b :: quoteB (p ++ r)) = (if b = 34 then 34 :: 34 :: quoteB p else b :: quoteB p) ++ quoteB r
    rw [ih]
    by_cases h : b = 34
    · rw [if_pos h, if_pos h]; rfl
    · rw [if_neg h, if_neg h]; rfl
theorem replaceK_quote : ∀ (k : Nat) (s : Bt), Lib.count s [34] = k → Lib.replaceK [34] [34, 34] k s = quoteB s
  | 0, s, h => by
    rcases splitQ 34 s with h1 | ⟨p, r, rfl, h1⟩
    · rw [quoteB_none h1]; rfl
    · rw [Lib.count_hit (by simp) (idx_hitQ h1)] at h; omega
  | k + 1, s, h => by
    rcases splitQ 34 s with h1 | ⟨p, r, rfl, h1⟩
    · rw [Lib.count_miss (idx_missQ h1)] at h; omega
    · have hx := idx_hitQ (r := r) h1
      rw [Lib.count_hit (by simp) hx] at h
      have hd : (p ++ 34 :: r).drop (p.length + [(34 : UInt8)].length) = r := by
        rw [show p ++ 34 :: r = (p ++ [34]) ++ r by simp]
        exact List.drop_left' (by simp)
      rw [hd] at h
      rw [Lib.replaceK_hit _ _ _ _ _ hx, hd, replaceK_quote k r (by omega), quoteB_append, quoteB_none h1]
      have e : quoteB (34 :: r) = 34 :: 34 :: quoteB r := by
        show (if (34 : UInt8) = 34 then _ else _) = _
        rw [if_pos rfl]
      rw [e, List.take_left' rfl]; simp
theorem replaceAll_quote (s : Bt) : Lib.replaceAll s [34] [34, 34] = quoteB s := by
  unfold Lib.replaceAll Lib.replace
  rw [if_neg (by decide)]
  have : Lib.replaceNum s [34] (-1) = Lib.count s [34] := by unfold Lib.replaceNum; rw [if_pos (.inl (by decide))]
  rw [this]
  exact replaceK_quote _ s rfl
theorem quoteB_len : ∀ b : Bt, (quoteB b).length ≤ 2 * b.length
  | [] => Nat.le_refl _
  | c :: b => by
    have := quoteB_len b
    unfold quoteB
    by_cases h : c = 34
    · rw [if_pos h]; simp only [List.length_cons]; omega
    · rw [if_neg h]; simp only [List.length_cons]; omega
theorem cellT_len (sep : UInt8) (b : Bt) : (cellT sep b).length ≤ 2 * b.length + 2 := by
  have := quoteB_len b
  unfold cellT
  by_cases h : special sep b = true
  · rw [if_pos h]; simp; omega
  · rw [if_neg h]; omega
theorem indexByte_any (c : UInt8) : ∀ l : Bt, decide (0 ≤ Lib.indexByte l c) = l.any fun x => x == c
  | [] => rfl
  | b :: l => by
    have ih := indexByte_any c l
    have hg := Lib.indexByte_ge l c
    unfold Lib.indexByte
    rw [List.any_cons, ← ih]
    by_cases h : (b == c) = true
    · rw [if_pos h, h]; rfl
    · rw [if_neg h, (by simpa using h : (b == c) = false), Bool.false_or]
      by_cases h2 : (Lib.indexByte l c == -1) = true
      · rw [if_pos h2]
        have := beq_iff_eq.1 h2
        rw [this]
      · rw [if_neg h2]
        have : Lib.indexByte l c ≠ -1 := fun e => h2 (beq_iff_eq.2 e)
        exact decide_eq_decide.2 (by omega)
theorem special_index (sep : UInt8) (b : Bt) : special sep b = (decide (0 ≤ Lib.indexByte b 34) || decide (0 ≤ Lib.indexByte b sep)) := by
  rw [indexByte_any, indexByte_any]
  unfold special
  induction b with
  | nil => rfl
  | cons c b ih =>
    simp only [List.any_cons]
    rw [ih]
    cases (c == 34) <;> cases (c == sep) <;> cases (b.any fun x => x == 34) <;> rfl
end Go.Proofs.YtoalecalahkblaaGreatDoor

set_option linter.all false
namespace Go.Proofs.YtoalecalahkblaaGreatDoor
open Go.RowKit
def SmallT (rows : List (List Bt)) : Prop := rows.length ≤ 1000000 ∧ ∀ r ∈ rows, r.length ≤ 1000000 ∧ ∀ b ∈ r, b.length ≤ 1000000
def rowOk (r : List Bt) : Bool := !r.isEmpty && r.all fun b => b.all printB
def RetSE (p : Bt × Int) (w : World) (e : Ending) (w' : World) : Prop := e = .returned (.tuple #[.string (bsOf p.1), .int .i64 p.2]) ∧ Below w.heap.size w w'
theorem tableB_rowOk (rows : List (List Bt)) : tableB rows = rows.all rowOk := rfl
theorem all_take_step {α : Type} {p : α → Bool} {xs : List α} {j : Nat} {x : α} (hx : xs[j]? = some x) (hp : p x = true) (h : (xs.take j).all p = true) : (xs.take (j + 1)).all p = true := by
  rw [List.take_add_one, hx, List.all_append, h]
  simp [hp]
theorem all_take_bad {α : Type} {p : α → Bool} {xs : List α} {j : Nat} {x : α} (hx : xs[j]? = some x) (hp : p x = false) : xs.all p = false := by
  rw [List.all_eq_false]
  exact ⟨x, List.mem_of_getElem? hx, by rw [hp]; decide⟩
theorem cellT_yes {sep : UInt8} {b : Bt} (h : special sep b = true) : cellT sep b = 34 :: (quoteB b ++ [34]) := by unfold cellT; rw [if_pos h]
theorem cellT_no {sep : UInt8} {b : Bt} (h : special sep b = false) : cellT sep b = b := by unfold cellT; rw [if_neg (by rw [h]; decide)]
theorem tailT_snoc {sep : UInt8} (b : Bt) : ∀ (f : Bool) (a : List Bt), tailT sep f (a ++ [b]) = tailT sep f a ++ ((if f && a.isEmpty then [] else [sep]) ++ cellT sep b)
  | f, [] => by simp [tailT]
  | f, x :: a => by
    have ih := tailT_snoc (sep := sep) b false a
    show (if f then [] else [sep]) ++ cellT sep x ++ tailT sep false (a ++ [b]) = ((if f then [] else [sep]) ++ cellT sep x ++ tailT sep false a) ++ _
    rw [ih]
    simp
theorem tailT_len {sep : UInt8} : ∀ (f : Bool) (a : List Bt), (∀ b ∈ a, b.length ≤ 1000000) → (tailT sep f a).length ≤ a.length * 2000003
  | _, [], _ => Nat.zero_le _
  | f, b :: a, h => by
    have ih := tailT_len (sep := sep) false a fun x hx => h x (List.mem_cons_of_mem _ hx)
    have h1 := cellT_len sep b
    have h2 := h b List.mem_cons_self
    show ((if f then [] else [sep]) ++ cellT sep b ++ tailT sep false a).length ≤ _
    rw [List.length_append, List.length_append, List.length_cons, Nat.succ_mul]
    cases f <;> simp <;> omega
theorem tableT_step {sep : UInt8} {rows : List (List Bt)} {k : Nat} {r : List Bt} (h : rows[k]? = some r) : tableT sep (rows.take (k + 1)) = tableT sep (rows.take k) ++ (cellsT sep r ++ [10]) := by
  have e : rows.take (k + 1) = rows.take k ++ [r] := by rw [List.take_add_one, h]; rfl
  rw [e, tableT_append]
  show _ ++ (rowT sep r ++ []) = _
  rw [List.append_nil]; rfl
set_option maxHeartbeats 8000000 in
set_option maxRecDepth 100000 in
theorem write_any (rows : List (List Bt)) (v : Value) (sep : UInt8) (w : World) (h : SlSS (Lt w.heap.size) w v rows) (hs : SmallT rows) (ha : AmbP w) :
    Calls Tryz.prog 12 #[v, .int .u8 (sep.toNat : Int)] w (RetSE (writeE sep rows) w) := by
  have HSEP := Lib.hid (separates_any sep)
  have HH := Lib.hid h
  have HS := Lib.hid hs
  have HA := Lib.hid ha
  obtain ⟨A, c, rfl, _, _, _⟩ := h.open_
  clear h hs ha
  obtain ⟨q, hq⟩ : ∃ q, isSep sep = q := ⟨_, rfl⟩
  rw [hq] at HSEP
  have HQ := Lib.hid hq
  obtain ⟨z, hz⟩ : ∃ z, (sep.toNat : Int) = z := ⟨_, rfl⟩
  rw [hz] at HSEP ⊢
  have HZ := Lib.hid hz
  clear hq hz
  cases q with
  | false =>
    have HE : Hid (writeE sep rows = ([], 1)) := by show _ = _; unfold writeE; rw [if_pos (.inl HQ.out)]
    go_enter Tryz.func12, Tryz.ntmps12
    go_wp2_with fail
    (with_reducible refine (HSEP.out _).mono ?_)
    rintro _ w1 ⟨rfl, rfl⟩
    go_wp2_with fail
    go_ret2
    show RetSE _ _ _ _
    rw [HE.out]
    exact ⟨rfl, Below.refl _ _⟩
  | true =>
    go_enter Tryz.func12, Tryz.ntmps12
    go_wp2_with fail
    (with_reducible refine (HSEP.out _).mono ?_)
    rintro _ w1 ⟨rfl, rfl⟩
    go_wp2_with fail
    go_loopw [18] (fun iv wr => ∃ k : Nat, iv = .int .i64 (k : Int) ∧ k ≤ rows.length ∧ Hid ((rows.take k).all rowOk = true) ∧ Hid (Below w.heap.size w wr)) (fun iv _ => rows.length - (intOf iv).toNat)
    case atStart => exact ⟨0, rfl, Nat.zero_le _, rfl, Lib.hid (Below.refl _ _)⟩
    case round =>
      obtain ⟨k, rfl, hk, HP, HB⟩ := hrel
      by_cases hlt : k < rows.length
      · obtain ⟨b, o, r, u, rfl, hD, hx, hr, hc⟩ := SlSS.at_ HH.out hlt
        have c0 := (HB.out.cell (p := ⟨b, o + k, none⟩) hD).trans hc
        have hr2 : SlP (Lt wr.heap.size) wr u r := SlS.below hr HB.out HB.out.size
        have HRB := Lib.hid (rowBad_any u r wr hr2 (HS.out.2 r (List.mem_of_getElem? hx)).2)
        obtain ⟨Ar, cr, rfl, _, _, _⟩ := hr2.open_
        have HX := Lib.hid hx
        obtain ⟨q, hq⟩ : ∃ q, (r.all fun b => b.all printB) = q := ⟨_, rfl⟩
        rw [hq] at HRB
        have HQR := Lib.hid hq
        clear hx hr hc hr2 hq
        by_cases hn : r.length = 0
        · have e1 : ((r.length : Int) == 0) = true := by rw [hn]; rfl
          have HE : Hid (writeE sep rows = ([], 1)) := by
            show _ = _
            unfold writeE
            rw [if_pos (.inr (by rw [tableB_rowOk]; exact all_take_bad HX.out (by unfold rowOk; rw [List.eq_nil_of_length_eq_zero hn]; rfl)))]
          clear hn
          go_wp2_with fail
          go_ret2
          show RetSE _ _ _ _
          rw [HE.out]
          exact ⟨rfl, HB.out⟩
        · have e1 : ((r.length : Int) == 0) = false := beq_false_of_ne (by omega)
          have HNE : Hid (r.isEmpty = false) := by
            show _ = _
            cases r with
            | nil => exact absurd rfl hn
            | cons _ _ => rfl
          cases q with
          | false =>
            have HE : Hid (writeE sep rows = ([], 1)) := by
              show _ = _
              unfold writeE
              rw [if_pos (.inr (by rw [tableB_rowOk]; exact all_take_bad HX.out (by unfold rowOk; rw [HQR.out, Bool.and_false])))]
            clear hn
            go_wp2_with fail
            (with_reducible refine HRB.out.mono ?_)
            rintro _ w2 ⟨rfl, hb2⟩
            have HB2 := Lib.hid (bthen HB.out hb2)
            clear hb2
            go_wp2_with fail
            go_ret2
            show RetSE _ _ _ _
            rw [HE.out]
            exact ⟨rfl, HB2.out⟩
          | true =>
            have HOK : Hid (rowOk r = true) := by show _ = _; unfold rowOk; rw [HQR.out, HNE.out]; rfl
            clear hn
            go_wp2_with fail
            (with_reducible refine HRB.out.mono ?_)
            rintro _ w2 ⟨rfl, hb2⟩
            have HB2 := Lib.hid (bthen HB.out hb2)
            clear hb2
            go_wp2_with fail
            go_roundw
            case rel => exact ⟨k + 1, by go_num, by omega, all_take_step HX.out HOK.out HP.out, HB2⟩
            case measure => simp [intOf]; omega
      · have HT : Hid (tableB rows = true) := by
          show _ = _
          have := HP.out
          rw [List.take_of_length_le (by omega)] at this
          exact this
        by_cases h5 : 2001 < rows.length
        · have i5 : (2001 : Int) < (rows.length : Int) := by omega
          have HE : Hid (writeE sep rows = ([], 5)) := by
            show _ = _
            unfold writeE
            rw [if_neg (by rw [HQ.out, HT.out]; decide), if_pos h5]
          go_wp2_with fail
          go_ret2
          show RetSE _ _ _ _
          rw [HE.out]
          exact ⟨rfl, HB.out⟩
        · have i5 : ¬ (2001 : Int) < (rows.length : Int) := by omega
          have HE : Hid (writeE sep rows = if 16384 < (tableT sep rows).length then ([], 5) else (tableT sep rows, 0)) := by
            show _ = _
            unfold writeE
            rw [if_neg (by rw [HQ.out, HT.out]; decide), if_neg h5]
          go_upto_region 12 with fail
          have hK := Blk.new wr 75 #[.pointer none, .slice none 0 0]
          have HK := Lib.hid (Bld.new (B := wr.heap.size) hK (Nat.le_refl _))
          have HBK := Lib.hid (bone wr (.cells #[.pointer none, .slice none 0 0] 75))
          obtain ⟨w0, hw0⟩ : ∃ w0, wr = w0 := ⟨_, rfl⟩
          rw [hw0] at HK HBK HB ⊢
          obtain ⟨w2, hw2⟩ : ∃ w2, w0.alloc (.cells #[.pointer none, .slice none 0 0] 75) = w2 := ⟨_, rfl⟩
          rw [hw2] at HK HBK ⊢
          clear hw0 hw2 hK HP hlt
          go_wp2_with fail
          go_loopw [35] (fun iv wr => ∃ k : Nat, iv = .int .i64 (k : Int) ∧ k ≤ rows.length ∧ Hid (Bld wr w0.heap.size w0.heap.size (tableT sep (rows.take k))) ∧ Hid ((tableT sep (rows.take k)).length ≤ 16384) ∧ Hid (Below w0.heap.size w0 wr)) (fun iv _ => rows.length - (intOf iv).toNat)
          case atStart => exact ⟨0, rfl, Nat.zero_le _, HK, Nat.zero_le _, HBK⟩
          case round =>
            obtain ⟨k, rfl, hk, HK, HL, HR⟩ := hrel
            have HBR := Lib.hid (HB.out.trans (HR.out.mono HB.out.size))
            by_cases hlt : k < rows.length
            · obtain ⟨b, o, r, u, rfl, hD, hx, hr, hc⟩ := SlSS.at_ HH.out hlt
              have c0 := (HBR.out.cell (p := ⟨b, o + k, none⟩) hD).trans hc
              obtain ⟨Ar, cr, rfl, _, _, hr⟩ := hr.open_
              have HX := Lib.hid hx
              have HRR := Lib.hid hr
              have HSR := Lib.hid (HS.out.2 r (List.mem_of_getElem? hx))
              obtain ⟨wk, hwk⟩ : ∃ wk, wr = wk := ⟨_, rfl⟩
              rw [hwk] at HK HR HBR c0 ⊢
              clear hx hr hc hwk
              go_wp2_with fail
              go_loopw [41] (fun iv wr => ∃ j : Nat, iv = .int .i64 (j : Int) ∧ j ≤ r.length ∧ Hid (Bld wr w0.heap.size w0.heap.size (tableT sep (rows.take k) ++ tailT sep true (r.take j))) ∧ Hid (Below w0.heap.size w0 wr)) (fun iv _ => r.length - (intOf iv).toNat)
              case atStart => exact ⟨0, rfl, Nat.zero_le _, by rw [List.take_zero]; show Hid (Bld _ _ _ (_ ++ [])); rw [List.append_nil]; exact HK, HR⟩
              case round =>
                obtain ⟨j, rfl, hj, HK3, HR3⟩ := hrel
                have HB3 := Lib.hid (HB.out.trans (HR3.out.mono HB.out.size))
                by_cases hjl : j < r.length
                · obtain ⟨b2, o2, t, rfl, hD2, ht, htm, hc2⟩ := SlP.at_ HRR.out hjl
                  have d0 := (HB3.out.cell (p := ⟨b2, o2 + j, none⟩) hD2).trans hc2
                  have HTJ := Lib.hid ht
                  have HTL := Lib.hid (HSR.out.2 t (List.mem_of_getElem? ht))
                  have HLJ : Hid ((tableT sep (rows.take k) ++ tailT sep true (r.take j)).length ≤ 2100000000000) := by
                    show _ ≤ _
                    have h1 := tailT_len (sep := sep) true (r.take j) fun x hx => HSR.out.2 x (List.mem_of_mem_take hx)
                    have h2 := HSR.out.1
                    have h3 := HL.out
                    rw [List.length_append]
                    rw [List.length_take] at h1
                    omega
                  have HST : Hid (tailT sep true (r.take (j + 1)) = tailT sep true (r.take j) ++ ((if j = 0 then [] else [sep]) ++ cellT sep t)) := by
                    show _ = _
                    have e : r.take (j + 1) = r.take j ++ [t] := by rw [List.take_add_one, ht]; rfl
                    rw [e, tailT_snoc]
                    congr 2
                    cases j with
                    | zero => rfl
                    | succ j =>
                      have : (r.take (j + 1)).isEmpty = false := by
                        cases r with
                        | nil => simp at hjl
                        | cons _ _ => rfl
                      rw [this]; simp
                  obtain ⟨T, hT⟩ : ∃ T, tableT sep (rows.take k) ++ tailT sep true (r.take j) = T := ⟨_, rfl⟩
                  rw [hT] at HK3 HLJ
                  have HTT := Lib.hid hT
                  obtain ⟨w3, hw3⟩ : ∃ w3, wr = w3 := ⟨_, rfl⟩
                  rw [hw3] at HK3 HR3 HB3 d0 ⊢
                  clear ht hc2 hT hw3 htm
                  obtain ⟨q0, e0⟩ : ∃ q0, decide (0 < j) = q0 := ⟨_, rfl⟩
                  go_upto_if 47 with fail
                  have HQ0 := Lib.hid e0
                  clear e0
                  go_cut [] from 48 to 49 (fun W => Bld W w0.heap.size w0.heap.size (T ++ (if q0 = false then [] else [sep])) ∧ Below w0.heap.size w0 W)
                  case first =>
                    cases q0 with
                    | false =>
                      go_wp2_with fail
                      go_meet
                      rw [if_pos (by first | rfl | trivial), List.append_nil]
                      exact ⟨HK3.out, HR3.out⟩
                    | true =>
                      have HWB := Lib.hid (writeByte_any w0.heap.size w0.heap.size T sep w3 HK3.out (by have := HLJ.out; omega) HR3.out.size)
                      rw [HZ.out] at HWB
                      go_wp2_with fail
                      (with_reducible refine HWB.out.mono ?_)
                      rintro _ w4 ⟨rfl, hK4, hB4, _⟩
                      have HK4 := Lib.hid hK4
                      have HB4 := Lib.hid (HR3.out.trans hB4)
                      clear hK4 hB4
                      go_wp2_with fail
                      go_meet
                      rw [if_neg (by first | decide | exact id)]
                      exact ⟨HK4.out, HB4.out⟩
                  have HK4 := Lib.hid hcut.1
                  have HB4 := Lib.hid hcut.2
                  have HSJ : Hid ((if q0 = false then ([] : Bt) else [sep]) = if j = 0 then [] else [sep]) := by
                    show _ = _
                    have := HQ0.out
                    cases q0 with
                    | false => rw [if_pos rfl, if_pos (by have := of_decide_eq_false this; omega)]
                    | true => rw [if_neg (by decide), if_neg (by have := of_decide_eq_true this; omega)]
                  rw [HSJ.out] at HK4
                  clear hcut HK3 HR3 d0 HSJ HQ0
                  obtain ⟨T2, hT2⟩ : ∃ T2, T ++ (if j = 0 then [] else [sep]) = T2 := ⟨_, rfl⟩
                  have HL2 : Hid (T2.length ≤ 2100000000001) := by
                    show _ ≤ _
                    rw [← hT2, List.length_append]
                    have := HLJ.out
                    by_cases e : j = 0
                    · rw [if_pos e]; simp; omega
                    · rw [if_neg e]; simp; omega
                  rw [hT2] at HK4
                  have HT2 := Lib.hid hT2
                  clear hT2
                  have HI1 : Hid (∀ W, Calls Tryz.prog 45 #[.string (bsOf t), .int .u8 34] W fun e w' => e = .returned (.int .i64 (Lib.indexByte t 34)) ∧ w' = W) := fun W => Tryz.strings_IndexByte (bsOf t) 34 W
                  have HI2 : Hid (∀ W, Calls Tryz.prog 45 #[.string (bsOf t), .int .u8 z] W fun e w' => e = .returned (.int .i64 (Lib.indexByte t sep)) ∧ w' = W) := fun W => by
                    have := Tryz.strings_IndexByte (bsOf t) z W
                    have hz : z.toNat.toUInt8 = sep := by rw [← HZ.out]; simp
                    rw [hz] at this
                    exact this
                  have HSPC := Lib.hid (special_index sep t)
                  generalize Lib.indexByte t 34 = x1 at *
                  generalize Lib.indexByte t sep = x2 at *
                  obtain ⟨q1, e1⟩ : ∃ q1, decide (0 ≤ x1) = q1 := ⟨_, rfl⟩
                  obtain ⟨q2, e2⟩ : ∃ q2, decide (0 ≤ x2) = q2 := ⟨_, rfl⟩
                  have HSP : Hid (special sep t = (q1 || q2)) := by show _ = _; rw [HSPC.out, e1, e2]
                  clear HSPC
                  go_upto_region 20 with fail
                  go_cut [58] from 50 to 58 (fun x W => x = .bool (q1 || q2) ∧ wc = W)
                  case first =>
                    cases q1 <;> cases q2
                    all_goals
                      go_wp2_with (first
                        | (go_at_call 45; (with_reducible refine (HI1.out _).mono ?_); rintro _ w' ⟨rfl, rfl⟩)
                        | (go_at_call 45; (with_reducible refine (HI2.out _).mono ?_); rintro _ w' ⟨rfl, rfl⟩))
                      go_meet
                      exact ⟨rfl, rfl⟩
                  obtain ⟨rfl, rfl⟩ := hcut
                  clear HI1 HI2 e1 e2
                  generalize (q1 || q2) = q at *
                  have HFIN : Hid (∀ wz, Bld wz w0.heap.size w0.heap.size (T2 ++ cellT sep t) → Bld wz w0.heap.size w0.heap.size (tableT sep (rows.take k) ++ tailT sep true (r.take (j + 1)))) := by
                    intro wz hz
                    rw [HST.out, ← List.append_assoc, HTT.out, ← List.append_assoc, HT2.out]
                    exact hz
                  cases q with
                  | false =>
                    have HCT := Lib.hid (cellT_no HSP.out)
                    have HWS := Lib.hid (writeString_any w0.heap.size w0.heap.size T2 (bsOf t) wc HK4.out (by have := HL2.out; have := HTL.out; rw [bs_size]; omega) HB4.out.size)
                    go_wp2_with fail
                    (with_reducible refine HWS.out.mono ?_)
                    rintro _ w5 ⟨rfl, hK5, hB5, _⟩
                    have HK5 : Hid (Bld w5 w0.heap.size w0.heap.size (T2 ++ cellT sep t)) := by show Bld _ _ _ _; rw [HCT.out]; exact hK5
                    have HB5 := Lib.hid (HB4.out.trans hB5)
                    clear hK5 hB5
                    go_wp2_with fail
                    go_roundw
                    case rel => exact ⟨j + 1, by go_num, by omega, HFIN.out _ HK5.out, HB5⟩
                    case measure => simp [intOf]; omega
                  | true =>
                    have HCT := Lib.hid (cellT_yes HSP.out)
                    obtain ⟨mx, hmx⟩ := (HA.out.now (HB.out.trans (HB4.out.mono HB.out.size))).mx
                    have HRA := Lib.hid (Tryz.strings_ReplaceAll (bsOf t) ⟨#[34]⟩ ⟨#[34, 34]⟩ mx wc (by have := HTL.out; rw [bs_size]; omega) hmx (by decide) (by
                      have h1 := Lib.countB_mul_le ⟨#[34]⟩ (by decide) (bsOf t).size (bsOf t) (Nat.le_refl _)
                      have h2 := HTL.out
                      rw [bs_size] at h1 ⊢
                      have h3 : (⟨#[34]⟩ : ByteArray).size = 1 := rfl
                      have h4 : (⟨#[34, 34]⟩ : ByteArray).size = 2 := rfl
                      rw [h3] at h1
                      rw [h4]
                      omega))
                    have hrq : Lib.replaceAll (bsOf t).data.toList (⟨#[34]⟩ : ByteArray).data.toList (⟨#[34, 34]⟩ : ByteArray).data.toList = quoteB t := replaceAll_quote t
                    rw [hrq] at HRA
                    have hnl : (quoteB t).length ≤ 2000000 := by
                      have h1 := quoteB_len t
                      have h2 := HTL.out
                      omega
                    have hn1 : ¬ 9223372036854775807 < 1 + (quoteB t).length := by omega
                    have hn2 : ¬ 9223372036854775807 < 1 + (quoteB t).length + 1 := by omega
                    clear hmx hrq hnl
                    go_wp2_with fail
                    (with_reducible refine HRA.out.mono ?_)
                    rintro _ w5 ⟨rfl, hb5⟩
                    have HK5 := Lib.hid (HK4.out.now hb5)
                    have HB5 := Lib.hid (HB4.out.trans (hb5.mono HB4.out.size))
                    clear hb5 HRA
                    go_wp2_with fail
                    have hqd : ((⟨#[34]⟩ : ByteArray) ++ ⟨(quoteB t).toArray⟩ ++ ⟨#[34]⟩).data.toList = cellT sep t := by rw [HCT.out]; simp [ByteArray.data_append]
                    have hql : ((⟨#[34]⟩ : ByteArray) ++ ⟨(quoteB t).toArray⟩ ++ ⟨#[34]⟩).size ≤ 2000002 := by
                      have h1 : ((⟨#[34]⟩ : ByteArray) ++ ⟨(quoteB t).toArray⟩ ++ ⟨#[34]⟩).size = ((⟨#[34]⟩ : ByteArray) ++ ⟨(quoteB t).toArray⟩ ++ ⟨#[34]⟩).data.toList.length := by rw [Array.length_toList]; rfl
                      rw [h1, hqd]
                      have h2 := cellT_len sep t
                      have h3 := HTL.out
                      omega
                    have HWS := Lib.hid (writeString_any w0.heap.size w0.heap.size T2 ((⟨#[34]⟩ : ByteArray) ++ ⟨(quoteB t).toArray⟩ ++ ⟨#[34]⟩) w5 HK5.out (by have := HL2.out; omega) HB5.out.size)
                    rw [hqd] at HWS
                    clear hqd hql
                    (with_reducible refine HWS.out.mono ?_)
                    rintro _ w6 ⟨rfl, hK6, hB6, _⟩
                    have HK6 := Lib.hid hK6
                    have HB6 := Lib.hid (HB5.out.trans hB6)
                    clear hK6 hB6
                    go_wp2_with fail
                    go_roundw
                    case rel => exact ⟨j + 1, by go_num, by omega, HFIN.out _ HK6.out, HB6⟩
                    case measure => simp [intOf]; omega
                · have HRT : Hid (tableT sep (rows.take (k + 1)) = (tableT sep (rows.take k) ++ tailT sep true (r.take j)) ++ [10]) := by
                    show _ = _
                    have hrj : r.take j = r := List.take_of_length_le (by omega)
                    rw [tableT_step HX.out, hrj, tailT_true, List.append_assoc]
                  have HLJ : Hid ((tableT sep (rows.take k) ++ tailT sep true (r.take j)).length ≤ 2100000000000) := by
                    show _ ≤ _
                    have h1 := tailT_len (sep := sep) true (r.take j) fun x hx => HSR.out.2 x (List.mem_of_mem_take hx)
                    have h2 := HSR.out.1
                    have h3 := HL.out
                    rw [List.length_append]
                    rw [List.length_take] at h1
                    omega
                  have HWB := Lib.hid (writeByte_any w0.heap.size w0.heap.size _ 10 wr HK3.out (by have := HLJ.out; omega) HR3.out.size)
                  rw [← HRT.out] at HWB
                  rw [show (((10 : UInt8).toNat : Nat) : Int) = 10 from rfl] at HWB
                  obtain ⟨w3, hw3⟩ : ∃ w3, wr = w3 := ⟨_, rfl⟩
                  rw [hw3] at HWB HR3 HK3 ⊢
                  clear hw3 HLJ HRT
                  go_wp2_with fail
                  (with_reducible refine HWB.out.mono ?_)
                  rintro _ w4 ⟨rfl, hK4, hB4, _⟩
                  have HK4 := Lib.hid hK4
                  have HB4 := Lib.hid (HR3.out.trans hB4)
                  have HBL := Lib.hid (Tryz.Builder_Len_f w0.heap.size w0.heap.size _ w4 HK4.out)
                  rw [Lib.byteCells_length] at HBL
                  clear hK4 hB4 HWB
                  by_cases hlen : 16384 < (tableT sep (rows.take (k + 1))).length
                  · have HF : Hid (writeE sep rows = ([], 5)) := by
                      show _ = _
                      rw [HE.out, if_pos (by have := tableT_take (sep := sep) rows (k + 1); omega)]
                    generalize (tableT sep (rows.take (k + 1))).length = N at *
                    have i6 : (16384 : Int) < (N : Int) := by omega
                    clear hlen
                    go_wp2_with fail
                    (with_reducible refine HBL.out.mono ?_)
                    rintro _ w5 ⟨rfl, rfl⟩
                    go_wp2_with fail
                    go_ret2
                    show RetSE _ _ _ _
                    rw [HF.out]
                    exact ⟨rfl, HB.out.trans (HB4.out.mono HB.out.size)⟩
                  · have HLL : Hid ((tableT sep (rows.take (k + 1))).length ≤ 16384) := by show _ ≤ _; omega
                    obtain ⟨N, hN⟩ : ∃ N, (tableT sep (rows.take (k + 1))).length = N := ⟨_, rfl⟩
                    rw [hN] at HBL
                    have i6 : ¬ (16384 : Int) < (N : Int) := by omega
                    clear hlen hN
                    go_wp2_with fail
                    (with_reducible refine HBL.out.mono ?_)
                    rintro _ w5 ⟨rfl, rfl⟩
                    go_wp2_with fail
                    go_roundw
                    case rel => exact ⟨k + 1, by go_num, by omega, HK4, HLL, HB4⟩
                    case measure => simp [intOf]; omega
            · have hrt : rows.take k = rows := List.take_of_length_le (by omega)
              rw [hrt] at HK HL
              have HF : Hid (writeE sep rows = (tableT sep rows, 0)) := by
                show _ = _
                rw [HE.out, if_neg (by have := HL.out; omega)]
              have HSTR := Lib.hid (string_any w0.heap.size w0.heap.size _ wr HK.out HR.out.size)
              clear hrt
              go_wp2_with fail
              (with_reducible refine HSTR.out.mono ?_)
              rintro _ w5 ⟨rfl, _, hb5, _⟩
              have HB5 := Lib.hid (HR.out.trans hb5)
              clear hb5
              go_wp2_with fail
              go_ret2
              show RetSE _ _ _ _
              rw [HF.out]
              exact ⟨rfl, HB.out.trans (HB5.out.mono HB.out.size)⟩
end Go.Proofs.YtoalecalahkblaaGreatDoor
