/- Texts of this seat, merged. -/
import Derived.Laws.StructEq
import Derived.BigQuiet
import Derived.Deep.QuietTactic
import Derived.Deep.CutRange
import Derived.ProofKit
import Derived.Deep.Slices
import Derived.Deep.Fields
import Derived.Deep.Strs
import Derived.ChangeSame
import Derived.Lib.SmallJoins
import Derived.LaidMore
import Derived.OpenShut
import Derived.Stop.Joined
import Derived.Test.YtoalecalahkblaaGreatDoorIl01
import Derived.Test.YtoalecalahkblaaGreatDoorIl02
import Derived.Test.YtoalecalahkblaaGreatDoorIl03
import Derived.Test.YtoalecalahkblaaGreatDoorIl04
import Derived.Test.YtoalecalahkblaaGreatDoorIl05
import Derived.Test.YtoalecalahkblaaGreatDoorIl06
import Derived.Test.YtoalecalahkblaaGreatDoorIl07
import Derived.Test.YtoalecalahkblaaGreatDoorIl08
import Derived.Test.YtoalecalahkblaaGreatDoorIl09
import Derived.Test.YtoalecalahkblaaGreatDoorIl10
import Derived.Test.YtoalecalahkblaaGreatDoorIl11
import Derived.Test.YtoalecalahkblaaGreatDoorIl12
import Derived.Test.YtoalecalahkblaaGreatDoorIl13
import Derived.Test.YtoalecalahkblaaGreatDoorIl14
import Derived.Test.YtoalecalahkblaaGreatDoorIl15
import Derived.Test.YtoalecalahkblaaGreatDoorIl16
import Derived.Test.YtoalecalahkblaaGreatDoorIl17
import Derived.Test.YtoalecalahkblaaGreatDoorIl18
import Derived.Test.YtoalecalahkblaaGreatDoorIl19
import Derived.Test.YtoalecalahkblaaGreatDoorIl20
import Derived.Test.YtoalecalahkblaaGreatDoorIl21
import Derived.Test.YtoalecalahkblaaGreatDoorIl22
import Derived.Test.YtoalecalahkblaaGreatDoorIl23
import Derived.Test.YtoalecalahkblaaGreatDoorIl24
import Derived.Test.YtoalecalahkblaaGreatDoorIl25
import Derived.Test.YtoalecalahkblaaGreatDoorIl26
import Derived.Test.YtoalecalahkblaaGreatDoorIl27
import Derived.Test.YtoalecalahkblaaGreatDoorIl28
import Derived.Test.YtoalecalahkblaaGreatDoorIl29
import Derived.Test.YtoalecalahkblaaGreatDoorIl30
import Derived.Test.YtoalecalahkblaaGreatDoorIl31
import Derived.Test.YtoalecalahkblaaGreatDoorIl32
import Derived.Test.YtoalecalahkblaaGreatDoorIl33
import Derived.Test.YtoalecalahkblaaGreatDoorIl34
import Derived.Test.YtoalecalahkblaaGreatDoorIl35
import Derived.Test.YtoalecalahkblaaGreatDoorIl36
set_option linter.all false
set_option linter.all false
namespace Go.Proofs.YtoalecalahkblaaGreatDoor
open Go.RowKit
theorem fldsD_ok (r hd : List Bt) : ∀ (ks : List (Int × Int)) (pre : List Int) (acc : List Fld), FldsOk hd pre acc → (fldsD r hd acc ks).2.2 = 0 → FldsOk hd (pre ++ ks.map (·.1)) (fldsD r hd acc ks).1
  | [], pre, acc, h, _ => by rw [List.map_nil, List.append_nil]; exact h
  | (k, q) :: ks, pre, acc, h, h0 => by
    rw [List.map_cons, show pre ++ k :: ks.map (·.1) = (pre ++ [k]) ++ ks.map (·.1) by simp]
    unfold fldsD at h0 ⊢
    by_cases h1 : cellAt r k = []
    · rw [if_pos h1] at h0 ⊢
      exact fldsD_ok r hd ks _ _ (h.skip k) h0
    · rw [if_neg h1] at h0 ⊢
      by_cases h2 : (datE (bsOf (cellAt r k)) q).2 = 0
      · rw [if_pos h2] at h0 ⊢
        exact fldsD_ok r hd ks _ _ (h.more k (dat_valid h2)) h0
      · rw [if_neg h2] at h0
        exact absurd h0 h2
theorem fldsB_sort {hd : List Bt} {ks : List Int} {fs : List Fld} (h : FldsOk hd ks fs) (hn : (ks.map (cellAt hd)).Nodup) (hv : ∀ k ∈ ks, isNameB (bsOf (cellAt hd k)) = true) : fldsB (sortS nlt fs) = true := by
  haveI : Inhabited Fld := ⟨⟨⟨#[]⟩, noV⟩⟩
  have hp : (sortS nlt fs).Perm fs := perm_sortS fs
  have ha : AscM nlt (sortS nlt fs) := asc_sortS swo_nlt fs
  have hnd : ((sortS nlt fs).map nmOf).Nodup := (hp.map nmOf).nodup_iff.2 (h.sub.nodup hn)
  generalize sortS nlt fs = S at hp ha hnd ⊢
  have hB : ∀ f ∈ S, fldB f = true := fun f hf => by
    have hf := hp.mem_iff.1 hf
    unfold fldB
    rw [h.valid f hf, Bool.and_true]
    obtain ⟨k, hk, e⟩ := List.mem_map.1 (h.sub.subset (List.mem_map_of_mem hf))
    have := hv k hk
    rw [e] at this
    unfold nmOf at this
    rwa [bs_of] at this
  unfold fldsB
  refine all_yes fun i hi => ?_
  unfold fldAt
  rw [List.getElem?_eq_getElem hi]
  dsimp only
  rw [hB _ (List.getElem_mem hi), Bool.true_and]
  cases i with
  | zero => simp
  | succ i =>
    rw [show i + 1 - 1 = i from rfl, List.getElem?_eq_getElem (by omega)]
    dsimp only
    have h1 := List.pairwise_iff_getElem.1 ha i (i + 1) (by omega) hi (by omega)
    have h2 : nmOf S[i] ≠ nmOf S[i + 1] := by
      intro e
      have := List.pairwise_iff_getElem.1 hnd i (i + 1) (by rw [List.length_map]; omega) (by rw [List.length_map]; exact hi) (by omega)
      rw [List.getElem_map, List.getElem_map] at this
      exact this e
    unfold nlt at h1
    have h1 := of_decide_eq_false h1
    have h3 : nmOf S[i] < nmOf S[i + 1] := bs_total h1 (fun e => h2 e.symm)
    rw [Bool.or_eq_true]
    exact .inr (decide_eq_true h3)
theorem evEnd_ok {r : List Bt} {m : Mp} {res : Bt} {life t : Int} {d : List Fld × Int × Int} (h : (evEnd r m res life t d).2.2 = 0) : d.2.2 = 0 ∧ (evEnd r m res life t d).1 = ⟨bsOf (cellAt r m.cas), bsOf (cellAt r m.act), bsOf res, life, t, sortS nlt d.1⟩ := by
  unfold evEnd at h ⊢
  by_cases h0 : d.2.2 = 0
  · rw [if_pos h0]; exact ⟨h0, rfl⟩
  · rw [if_neg h0] at h; exact absurd h h0
theorem evT_valid {r hd : List Bt} {m : Mp} {res : Bt} {life : Int} (hok : MpOk m) (hnd : (m.data.map (cellAt hd)).Nodup) (hnm : ∀ k ∈ m.data, isNameB (bsOf (cellAt hd k)) = true)
    (hc : isNameB (bsOf (cellAt r m.cas)) = true) (ha : isNameB (bsOf (cellAt r m.act)) = true) (hr : res = [] ∨ isNameB (bsOf res) = true) (hl : 1 ≤ life ∧ life ≤ 6) (h : (evT r hd m res life).2.2 = 0) : evB (evT r hd m res life).1 = true := by
  unfold evT at h ⊢
  by_cases h0 : (natE (cellAt r m.time)).2 = 0
  · rw [if_pos h0] at h ⊢
    obtain ⟨hd0, he⟩ := evEnd_ok h
    rw [he]
    have hz : (m.data.zip m.kinds).map (·.1) = m.data := by
      rw [List.map_fst_zip]
      have := hok.kinds
      omega
    have hF := fldsD_ok r hd (m.data.zip m.kinds) [] [] (FldsOk.nil hd) hd0
    rw [List.nil_append, hz] at hF
    obtain ⟨n1, n2⟩ := natE_fit (cellAt r m.time)
    have hlen : (sortS nlt (fldsD r hd [] (m.data.zip m.kinds)).1).length ≤ 8 := by
      haveI : Inhabited Fld := ⟨⟨⟨#[]⟩, noV⟩⟩
      have hp : (sortS nlt (fldsD r hd [] (m.data.zip m.kinds)).1).Perm _ := perm_sortS _
      rw [hp.length_eq]
      have := hF.len
      have := hok.len
      omega
    have hrs : (noS (bsOf res) || isNameB (bsOf res)) = true := by
      rcases hr with rfl | hr
      · decide +kernel
      · rw [hr, Bool.or_true]
    unfold evB
    dsimp only
    rw [hc, ha, hrs, decide_eq_true hl, decide_eq_true ⟨n1, n2⟩, decide_eq_true hlen, fldsB_sort hF hnd hnm]
    rfl
  · rw [if_neg h0] at h
    exact absurd h h0
theorem evE_valid {r hd : List Bt} {m : Mp} (hok : MpOk m) (hnd : (m.data.map (cellAt hd)).Nodup) (hnm : ∀ k ∈ m.data, isNameB (bsOf (cellAt hd k)) = true) (h : (evE r hd m).2.2 = 0) : evB (evE r hd m).1 = true := by
  unfold evE at h ⊢
  by_cases h1 : isNameB (bsOf (cellAt r m.cas)) = false
  · rw [if_pos h1] at h; exact absurd h (show (8 : Int) ≠ 0 by decide)
  rw [if_neg h1] at h ⊢
  by_cases h2 : isNameB (bsOf (cellAt r m.act)) = false
  · rw [if_pos h2] at h; exact absurd h (show (8 : Int) ≠ 0 by decide)
  rw [if_neg h2] at h ⊢
  have h1 : isNameB (bsOf (cellAt r m.cas)) = true := by simpa using h1
  have h2 : isNameB (bsOf (cellAt r m.act)) = true := by simpa using h2
  have hL : ∀ res : Bt, (res = [] ∨ isNameB (bsOf res) = true) → (evL r hd m res).2.2 = 0 → evB (evL r hd m res).1 = true := fun res hr h => by
    unfold evL at h ⊢
    by_cases h3 : m.life < 0
    · rw [if_pos h3] at h ⊢
      exact evT_valid hok hnd hnm h1 h2 hr (by decide) h
    rw [if_neg h3] at h ⊢
    by_cases h4 : lifeI (cellAt r m.life) < 0
    · rw [if_pos h4] at h; exact absurd h (show (20 : Int) ≠ 0 by decide)
    rw [if_neg h4] at h ⊢
    have := lifeI_lt (cellAt r m.life)
    exact evT_valid hok hnd hnm h1 h2 hr (by omega) h
  unfold evR at h ⊢
  by_cases h3 : m.res < 0
  · rw [if_pos h3] at h ⊢
    exact hL [] (.inl rfl) h
  rw [if_neg h3] at h ⊢
  by_cases h4 : cellAt r m.res ≠ [] ∧ isNameB (bsOf (cellAt r m.res)) = false
  · rw [if_pos h4] at h; exact absurd h (show (8 : Int) ≠ 0 by decide)
  rw [if_neg h4] at h ⊢
  refine hL _ ?_ h
  by_cases h5 : cellAt r m.res = []
  · exact .inl h5
  · right
    cases e : isNameB (bsOf (cellAt r m.res))
    · exact absurd ⟨h5, e⟩ h4
    · rfl
theorem impRows_valid {hd : List Bt} {m : Mp} (hok : MpOk m) (hnd : (m.data.map (cellAt hd)).Nodup) (hnm : ∀ k ∈ m.data, isNameB (bsOf (cellAt hd k)) = true) : ∀ (rs : List (List Bt)) (i : Nat) (acc : List Ev), (∀ e ∈ acc, evB e = true) → (∀ e ∈ (impRows hd m i acc rs).1, evB e = true) ∧ (impRows hd m i acc rs).1.length ≤ acc.length + rs.length
  | [], _, acc, h => ⟨h, Nat.le_refl _⟩
  | r :: rs, i, acc, h => by
    unfold impRows
    by_cases h1 : r.length ≠ hd.length
    · rw [if_pos h1]; exact ⟨fun _ he => absurd he (by simp), Nat.zero_le _⟩
    rw [if_neg h1]
    by_cases h2 : (evE r hd m).2.2 = 0
    · rw [if_pos h2]
      have := impRows_valid hok hnd hnm rs (i + 1) (acc ++ [(evE r hd m).1]) (fun e he => by
        rcases List.mem_append.1 he with he | he
        · exact h e he
        · rw [List.mem_singleton.1 he]; exact evE_valid hok hnd hnm h2)
      refine ⟨this.1, Nat.le_trans this.2 ?_⟩
      rw [List.length_append, List.length_cons]
      simp
      omega
    · rw [if_neg h2]; exact ⟨fun _ he => absurd he (by simp), Nat.zero_le _⟩
theorem logB_sort {l : List Ev} (h : ∀ e ∈ l, evB e = true) (hl : l.length ≤ 2000) : logB (sortS tlt l) = true := by
  haveI : Inhabited Ev := ⟨noEv⟩
  have hp : (sortS tlt l).Perm l := perm_sortS l
  have ha : AscM tlt (sortS tlt l) := asc_sortS swo_tlt l
  have hL := hp.length_eq
  generalize sortS tlt l = S at hp ha hL ⊢
  unfold logB
  rw [decide_eq_true (by omega : S.length ≤ 2000), Bool.true_and]
  refine all_yes fun i hi => ?_
  unfold evAt
  rw [List.getElem?_eq_getElem hi]
  dsimp only
  rw [h _ (hp.mem_iff.1 (List.getElem_mem hi)), Bool.true_and]
  cases i with
  | zero => simp
  | succ i =>
    rw [show i + 1 - 1 = i from rfl, List.getElem?_eq_getElem (by omega)]
    dsimp only
    have h1 := List.pairwise_iff_getElem.1 ha i (i + 1) (by omega) hi (by omega)
    unfold tlt at h1
    have h1 := of_decide_eq_false h1
    rw [Bool.or_eq_true]
    exact .inr (decide_eq_true (by omega))
theorem imp_valid (s : Bt) (m : Mp) : logB (impE s m).1 = true := by
  unfold impE
  cases hq : mapB m with
  | false => rw [if_neg (by decide)]; rfl
  | true =>
    rw [if_pos rfl]
    have hok := mpOk hq
    have hcl := (cells_le m.sep s).2
    split
    · generalize (cellsE m.sep s).1 = rows at hcl
      cases rows with
      | nil => rfl
      | cons hd rs =>
        unfold impT
        dsimp only
        split
        · rename_i h0
          obtain ⟨_, h1, h2⟩ := head_ok h0
          obtain ⟨a1, a2⟩ := impRows_valid hok h1 h2 rs 0 [] (fun e he => by cases he)
          refine logB_sort a1 ?_
          simp at hcl a2
          omega
        · rfl
    · rfl
end Go.Proofs.YtoalecalahkblaaGreatDoor

set_option linter.all false
namespace Go.Proofs.YtoalecalahkblaaGreatDoor
open Go.RowKit
theorem eqF_same {P : Program} {d t o : Nat} {xs : Array Value} {f : Go.Field} {l : List Go.Field} {v : Value} {W : World} (hf : (f.name == "_", f.type, f.offset) = (false, t, o)) (hp : (Go.part t xs o).run P W = .ok v W) (he : (Op.equalIn d t v v).run P W = .ok true W) :
    (Op.eqFields d xs xs (f :: l)).run P W = (Op.eqFields d xs xs l).run P W := by
  simp only [Prod.mk.injEq, beq_eq_false_iff_ne] at hf
  obtain ⟨h1, h2, h3⟩ := hf
  simp only [Op.eqFields, h1, h2, h3, ne_eq, not_false_eq_true, if_true]
  simp only [Sem.run_bind, hp, he, Result.andThen_ok]
  simp
theorem part_int {P : Program} {t o : Nat} {xs : Array Value} {v : Value} {W : World} (ht : P.underlying t = some (.int .i64)) (hx : xs[o]? = some v) : (Go.part t xs o).run P W = .ok v W := by
  simp only [Sem.run_bind, Go.part, isAgg, run_underlying ht, Result.andThen_ok, Sem.run_pure, Bool.false_eq_true, if_false, hx]
theorem part_str {P : Program} {t o : Nat} {xs : Array Value} {v : Value} {W : World} (ht : P.underlying t = some .string) (hx : xs[o]? = some v) : (Go.part t xs o).run P W = .ok v W := by
  simp only [Sem.run_bind, Go.part, isAgg, run_underlying ht, Result.andThen_ok, Sem.run_pure, Bool.false_eq_true, if_false, hx]
theorem fieldsFld : ((Program.fieldsOf Tryz.prog 123).toList.map fun f => (f.name == "_", f.type, f.offset)) = [(false, 9, 0), (false, 121, 1)] := by kernel_rfl
theorem fieldsVal : ((Program.fieldsOf Tryz.prog 121).toList.map fun f => (f.name == "_", f.type, f.offset)) = [(false, 3, 0), (false, 3, 1), (false, 9, 2)] := by kernel_rfl
theorem valInfoSize : (Tryz.prog.info? 121).map (fun i => i.size) = some 3 := by kernel_rfl
theorem list2 {α β : Type} {g : α → β} {L : List α} {a b : β} (h : L.map g = [a, b]) : ∃ x y, L = [x, y] ∧ g x = a ∧ g y = b := by
  match L, h with
  | [x, y], h => injection h with h1 h; injection h with h2 _; exact ⟨x, y, rfl, h1, h2⟩
theorem list3 {α β : Type} {g : α → β} {L : List α} {a b c : β} (h : L.map g = [a, b, c]) : ∃ x y z, L = [x, y, z] ∧ g x = a ∧ g y = b ∧ g z = c := by
  match L, h with
  | [x, y, z], h => injection h with h1 h; injection h with h2 h; injection h with h3 _; exact ⟨x, y, z, rfl, h1, h2, h3⟩
theorem valEq (a b : Int) (s : ByteArray) (W : World) (d : Nat) : (Op.equalIn (d + 1 + 1) 121 (.agg #[.int .i64 a, .int .i64 b, .string s]) (.agg #[.int .i64 a, .int .i64 b, .string s])).run Tryz.prog W = .ok true W := by
  rw [run_equalIn_agg (ht := by kernel_rfl) (hp := by kernel_rfl)]
  obtain ⟨x, y, z, hl, h1, h2, h3⟩ := list3 fieldsVal
  rw [hl]
  have hi : Program.underlying Tryz.prog 3 = some (.int .i64) := by kernel_rfl
  have hs : Program.underlying Tryz.prog 9 = some .string := by kernel_rfl
  rw [eqF_same (v := .int .i64 a) h1 (part_int hi rfl) (by rw [run_equalIn_int (h := hi)]; simp), eqF_same (v := .int .i64 b) h2 (part_int hi rfl) (by rw [run_equalIn_int (h := hi)]; simp), eqF_same (v := .string s) h3 (part_str hs rfl) (by rw [run_equalIn_string (h := hs)]; simp)]
  simp [Op.eqFields]
theorem part_val (nm : ByteArray) (a b : Int) (s : ByteArray) (W : World) : (Go.part 121 #[.string nm, .int .i64 a, .int .i64 b, .string s] 1).run Tryz.prog W = .ok (.agg #[.int .i64 a, .int .i64 b, .string s]) W := by
  obtain ⟨i, hi, hs⟩ := Option.map_eq_some_iff.1 valInfoSize
  have ht : Program.underlying Tryz.prog 121 = some (.struct (Program.fieldsOf Tryz.prog 121)) := by kernel_rfl
  simp [Go.part, isAgg, run_underlying ht, sizeOf, typeInfo, hi, hs]
theorem fldNeq (f : Fld) (W : World) : (binOp .neq 123 (.agg #[.string f.nm, .int .i64 f.v.kind, .int .i64 f.v.n, .string f.v.s]) (.agg #[.string f.nm, .int .i64 f.v.kind, .int .i64 f.v.n, .string f.v.s])).run Tryz.prog W = .ok (.bool false) W := by
  rw [run_neq_struct, show (10000 : Nat) = 9996 + 1 + 1 + 1 + 1 from rfl, run_equalIn_agg (ht := by kernel_rfl) (hp := by kernel_rfl)]
  obtain ⟨x, y, hl, h1, h2⟩ := list2 fieldsFld
  rw [hl]
  have hs : Program.underlying Tryz.prog 9 = some .string := by kernel_rfl
  rw [eqF_same (v := .string f.nm) h1 (part_str hs rfl) (by rw [run_equalIn_string (h := hs)]; simp), eqF_same h2 (part_val _ _ _ _ W) (valEq _ _ _ W _)]
  simp [Op.eqFields]
set_option maxHeartbeats 1000000 in
set_option maxRecDepth 100000 in
theorem evSame_ref (e : Ev) (d1 d2 : Value) (w : World) (h1 : SlFl (Lt w.heap.size) w d1 e.data) (h2 : SlFl (Lt w.heap.size) w d2 e.data) :
    Calls Tryz.prog 66 #[.agg #[.string e.cas, .string e.act, .string e.res, .int .i64 e.life, .int .i64 e.time, d1], .agg #[.string e.cas, .string e.act, .string e.res, .int .i64 e.life, .int .i64 e.time, d2]] w fun x w' => x = .returned (.bool true) ∧ Below w.heap.size w w' := by
  obtain ⟨A, c, rfl, _, _, h1⟩ := h1.open_
  obtain ⟨A2, c2, rfl, _, _, h2⟩ := h2.open_
  have HA := Lib.hid h1
  have HB := Lib.hid h2
  have hb1 := bone w (.cells #[.string e.cas, .string e.act, .string e.res, .int .i64 e.life, .int .i64 e.time, .slice A e.data.length c] 69)
  have hb12 := bbox hb1 (.cells #[.string e.cas, .string e.act, .string e.res, .int .i64 e.life, .int .i64 e.time, .slice A2 e.data.length c2] 69)
  have HB12 := Lib.hid hb12
  clear h1 h2
  go_enter Tryz.func66, Tryz.ntmps66
  go_wp2_with fail
  go_loopw [5] (fun iv wr => ∃ k q : Nat, iv = .int .i64 (k : Int) ∧ k ≤ e.data.length ∧ wr = ((w.alloc (.cells #[.string e.cas, .string e.act, .string e.res, .int .i64 e.life, .int .i64 e.time, .slice A e.data.length c] 69)).alloc (.cells #[.string e.cas, .string e.act, .string e.res, .int .i64 e.life, .int .i64 e.time, .slice A2 e.data.length c2] 69)).drewN q) (fun iv _ => e.data.length - (intOf iv).toNat)
  case atStart => exact ⟨0, 0, rfl, Nat.zero_le _, rfl⟩
  case round =>
    obtain ⟨k, q, rfl, hk, hwr⟩ := hrel
    by_cases hlt : k < e.data.length
    · obtain ⟨b, o, f, rfl, hDb, hx, _, f0, f1, f2, f3⟩ := SlFl.at_ HA.out hlt
      obtain ⟨b', o', f', rfl, hDb', hx', _, g0, g1, g2, g3⟩ := SlFl.at_ HB.out hlt
      rw [hx] at hx'
      injection hx' with hx'
      subst hx'
      have p0 := (hb12.cell (p := ⟨b, o + k * 4, none⟩) hDb).trans f0
      have p1 := (hb12.cell (p := ⟨b, o + k * 4 + 1, none⟩) hDb).trans f1
      have p2 := (hb12.cell (p := ⟨b, o + k * 4 + 2, none⟩) hDb).trans f2
      have p3 := (hb12.cell (p := ⟨b, o + k * 4 + 3, none⟩) hDb).trans f3
      have q0 := (hb12.cell (p := ⟨b', o' + k * 4, none⟩) hDb').trans g0
      have q1 := (hb12.cell (p := ⟨b', o' + k * 4 + 1, none⟩) hDb').trans g1
      have q2 := (hb12.cell (p := ⟨b', o' + k * 4 + 2, none⟩) hDb').trans g2
      have q3 := (hb12.cell (p := ⟨b', o' + k * 4 + 3, none⟩) hDb').trans g3
      have hne := fldNeq f
      have i1 : (0 : Int) ≤ (k : Int) := by omega
      have i2 : (k : Int) < (e.data.length : Int) := by omega
      clear hx f0 f1 f2 f3 g0 g1 g2 g3
      go_wp2_with fail
      go_quiet (fail)
      go_wp2_with fail
      go_roundw
      case rel => exact ⟨k + 1, q + nq, by go_num, by omega, by first | rfl | (rw [hwr]; simp) | simp⟩
      case measure => simp [intOf]; omega
    · obtain rfl : k = e.data.length := by omega
      have z1 : ¬ (e.data.length : Int) < (e.data.length : Int) := by omega
      go_wp2_with fail
      go_ret
      exact ⟨rfl, below_drewN HB12.out q⟩
end Go.Proofs.YtoalecalahkblaaGreatDoor

set_option linter.all false
namespace Go.Proofs.YtoalecalahkblaaGreatDoor
open Go.RowKit
set_option maxHeartbeats 1000000 in
set_option maxRecDepth 100000 in
theorem logSame_ref (l : List Ev) (u v : Value) (w : World) (hu : IsLog (Lt w.heap.size) w u l) (hv : IsLog (Lt w.heap.size) w v l) :
    Calls Tryz.prog 20 #[u, v] w fun x w' => x = .returned (.bool true) ∧ Below w.heap.size w w' := by
  obtain ⟨_, rfl, hu⟩ := hu
  obtain ⟨_, rfl, hv⟩ := hv
  obtain ⟨A, c, rfl, _, _, hu⟩ := hu.open_
  obtain ⟨A2, c2, rfl, _, _, hv⟩ := hv.open_
  have HU := Lib.hid hu
  have HV := Lib.hid hv
  have hb1 := bone w (.cells #[.slice A l.length c] 38)
  have hb12 := bbox hb1 (.cells #[.slice A2 l.length c2] 38)
  have hB1 := (Blk.new w 38 #[.slice A l.length c]).now (bone _ (.cells #[.slice A2 l.length c2] 38))
  have hB2 := Blk.new (w.alloc (.cells #[.slice A l.length c] 38)) 38 #[.slice A2 l.length c2]
  rw [World.size_alloc] at hB2
  clear hu hv hb1
  go_enter Tryz.func20, Tryz.ntmps20
  go_wp2_with fail
  obtain ⟨w2, hw2⟩ : ∃ w2, (w.alloc (.cells #[.slice A l.length c] 38)).alloc (.cells #[.slice A2 l.length c2] 38) = w2 := ⟨_, rfl⟩
  rw [hw2] at hb12 hB1 hB2 ⊢
  clear hw2
  have HB12 := Lib.hid hb12
  have HB1 := Lib.hid hB1
  have HB2 := Lib.hid hB2
  clear hb12 hB1 hB2
  go_loopw [5] (fun iv wr => ∃ k : Nat, iv = .int .i64 (k : Int) ∧ k ≤ l.length ∧ Hid (Below w2.heap.size w2 wr)) (fun iv _ => l.length - (intOf iv).toNat)
  case atStart => exact ⟨0, rfl, Nat.zero_le _, Lib.hid (Below.refl _ _)⟩
  case round =>
    obtain ⟨k, rfl, hk, HR⟩ := hrel
    have hw12 := HB12.out.size
    have hB1r := HB1.out.now HR.out
    have hB2r := HB2.out.now HR.out
    have r1 := hB1r.c1
    have r2 := hB2r.c1
    by_cases hlt : k < l.length
    · have HBR := Lib.hid (HB12.out.trans (HR.out.mono hw12))
      obtain ⟨b, o, e, dv, rfl, hD, hx, _, hdv, f0, f1, f2, f3, f4, f5⟩ := SlEv.at_ HU.out hlt
      obtain ⟨b', o', e', dv', rfl, hD', hx', _, hdv', g0, g1, g2, g3, g4, g5⟩ := SlEv.at_ HV.out hlt
      rw [hx] at hx'
      injection hx' with hx'
      subst hx'
      have hE := fun W => HBR.out.trans ((ext_below wr W).mono HBR.out.size)
      have hES := fun W => (hE W).size
      have p0 := fun W => ((hE W).cell (p := ⟨b, o + k * 6, none⟩) hD).trans f0
      have p1 := fun W => ((hE W).cell (p := ⟨b, o + k * 6 + 1, none⟩) hD).trans f1
      have p2 := fun W => ((hE W).cell (p := ⟨b, o + k * 6 + 2, none⟩) hD).trans f2
      have p3 := fun W => ((hE W).cell (p := ⟨b, o + k * 6 + 3, none⟩) hD).trans f3
      have p4 := fun W => ((hE W).cell (p := ⟨b, o + k * 6 + 4, none⟩) hD).trans f4
      have p5 := fun W => ((hE W).cell (p := ⟨b, o + k * 6 + 5, none⟩) hD).trans f5
      have q0 := fun W => ((hE W).cell (p := ⟨b', o' + k * 6, none⟩) hD').trans g0
      have q1 := fun W => ((hE W).cell (p := ⟨b', o' + k * 6 + 1, none⟩) hD').trans g1
      have q2 := fun W => ((hE W).cell (p := ⟨b', o' + k * 6 + 2, none⟩) hD').trans g2
      have q3 := fun W => ((hE W).cell (p := ⟨b', o' + k * 6 + 3, none⟩) hD').trans g3
      have q4 := fun W => ((hE W).cell (p := ⟨b', o' + k * 6 + 4, none⟩) hD').trans g4
      have q5 := fun W => ((hE W).cell (p := ⟨b', o' + k * 6 + 5, none⟩) hD').trans g5
      have t1 : ∀ W, (ext wr W).cell? ⟨w.heap.size, 0, none⟩ = some (.slice (some ⟨b, o, none⟩) l.length c) := fun W => (hB1r.now (ext_below wr W)).c1
      have t2 : ∀ W, (ext wr W).cell? ⟨w.heap.size + 1, 0, none⟩ = some (.slice (some ⟨b', o', none⟩) l.length c2) := fun W => (hB2r.now (ext_below wr W)).c1
      have HS : Hid (∀ W, Calls Tryz.prog 66 #[.agg #[.string e.cas, .string e.act, .string e.res, .int .i64 e.life, .int .i64 e.time, dv], .agg #[.string e.cas, .string e.act, .string e.res, .int .i64 e.life, .int .i64 e.time, dv']] (ext wr W) fun x w' => x = .returned (.bool true) ∧ Below (ext wr W).heap.size (ext wr W) w') :=
        Lib.hid fun W => evSame_ref e dv dv' (ext wr W) (SlFl.below hdv (hE W) (hES W)) (SlFl.below hdv' (hE W) (hES W))
      have i1 : (0 : Int) ≤ (k : Int) := by omega
      have i2 : (k : Int) < (l.length : Int) := by omega
      have HR' := HR
      clear hx f0 f1 f2 f3 f4 f5 g0 g1 g2 g3 g4 g5 hdv hdv' hE hES hB1r hB2r
      go_upto_region 6 with fail
      refine wp_region_growV (by kernel_rfl) (by kernel_rfl) ?_
      repeat (refine veil_step (fun K hK => ?_); go_simp; first | (refine hK _ ?_; clear hK K) | (apply Exists.intro; refine ⟨fun Wq => ?_, hK _ ?_⟩; ((go_at_call 66; exact grow_of (HS.out Wq))); clear hK K))
      refine veil_nil ?_
      intro _ hw'
      obtain ⟨W, rfl⟩ := hw'
      go_wp2_with fail
      go_roundw
      case rel => exact ⟨k + 1, by go_num, by omega, Lib.hid (HR'.out.trans ((ext_below wr W).mono HR'.out.size))⟩
      case measure => simp [intOf]; omega
    · obtain rfl : k = l.length := by omega
      have z1 : ¬ (l.length : Int) < (l.length : Int) := by omega
      have HF := Lib.hid (HB12.out.trans (HR.out.mono hw12))
      clear hB1r hB2r
      go_wp2_with fail
      go_ret
      exact ⟨rfl, HF.out⟩
end Go.Proofs.YtoalecalahkblaaGreatDoor

set_option linter.all false
namespace Go.Proofs.YtoalecalahkblaaGreatDoor
open Go.RowKit
def awText : ByteArray := ⟨#[119, 104, 111, 44, 119, 104, 97, 116, 44, 119, 104, 101, 110, 10, 99, 49, 44, 97, 44, 53, 10, 99, 49, 44, 34, 98, 34, 44, 51, 10]⟩
def awHead : List Bt := [[119, 104, 111], [119, 104, 97, 116], [119, 104, 101, 110]]
def awRows : List (List Bt) := [[[99, 49], [97], [53]], [[99, 49], [98], [51]]]
def awEvs : List Ev := [⟨bsOf [99, 49], bsOf [97], ⟨#[]⟩, 5, 5, []⟩, ⟨bsOf [99, 49], bsOf [98], ⟨#[]⟩, 5, 3, []⟩]
theorem aw_cells : cellsE 44 awText.data.toList = (awHead :: awRows, (0, 0), 0) := by rfl
theorem aw_sorted : sortS tlt awEvs = [⟨bsOf [99, 49], bsOf [98], ⟨#[]⟩, 5, 3, []⟩, ⟨bsOf [99, 49], bsOf [97], ⟨#[]⟩, 5, 5, []⟩] := by simp [sortS, awEvs, insL, mg, tlt]
theorem aw_nat5 : natE [53] = (5, 0) := by
  unfold natE
  rw [if_neg (by decide)]
  have h : Lib.atoiAll [53] = .ok 5 := by rfl
  have h2 : Lib.itoa 5 = [53] := by first | rfl | kernel_rfl | (simp [Lib.itoa, Lib.decDigits]; done)
  rw [h]
  show (if ((5 : Int) < 0 ∨ Lib.itoa 5 ≠ [53]) then ((0 : Int), (3 : Int)) else if (1099511627776 : Int) < 5 then (0, 2) else (5, 0)) = (5, 0)
  rw [if_neg (by rintro (h | h); omega; exact h h2), if_neg (by omega)]
theorem aw_nat3 : natE [51] = (3, 0) := by
  unfold natE
  rw [if_neg (by decide)]
  have h : Lib.atoiAll [51] = .ok 3 := by rfl
  have h2 : Lib.itoa 3 = [51] := by first | rfl | kernel_rfl | (simp [Lib.itoa, Lib.decDigits]; done)
  rw [h]
  show (if ((3 : Int) < 0 ∨ Lib.itoa 3 ≠ [51]) then ((0 : Int), (3 : Int)) else if (1099511627776 : Int) < 3 then (0, 2) else (3, 0)) = (3, 0)
  rw [if_neg (by rintro (h | h); omega; exact h h2), if_neg (by omega)]
theorem aw_good : ∀ (i : Nat) r e, awRows[i]? = some r → awEvs[i]? = some e → GoodR r e := by
  intro i r e hr he
  match i, hr, he with
  | 0, hr, he =>
    injection hr with hr
    injection he with he
    subst hr he
    exact ⟨⟨[99, 49], [97], [53], 5, rfl, rfl, rfl, by decide, by decide, aw_nat5, by decide, rfl⟩⟩
  | 1, hr, he =>
    injection hr with hr
    injection he with he
    subst hr he
    exact ⟨⟨[99, 49], [98], [51], 3, rfl, rfl, rfl, by decide, by decide, aw_nat3, by decide, rfl⟩⟩
  | i + 2, hr, _ => simp [awRows] at hr
def awS : List Ev := [⟨bsOf [99, 49], bsOf [98], ⟨#[]⟩, 5, 3, []⟩, ⟨bsOf [99, 49], bsOf [97], ⟨#[]⟩, 5, 5, []⟩]
theorem plain_any (w : World) : Calls Tryz.prog 36 #[] w fun e w' => e = .returned (.agg #[.int .i64 0, .int .i64 1, .int .i64 (-1), .int .i64 (-1), .int .i64 2, .slice none 0 0, .slice none 0 0, .int .u8 44]) ∧ Below w.heap.size w w' := by
  have hb := bone w (.cells #[.int .i64 0, .int .i64 0, .int .i64 0, .int .i64 0, .int .i64 0, .slice none 0 0, .slice none 0 0, .int .u8 0] 33)
  have hB := Blk.new w 33 #[.int .i64 0, .int .i64 0, .int .i64 0, .int .i64 0, .int .i64 0, .slice none 0 0, .slice none 0 0, .int .u8 0]
  go_enter Tryz.func36, Tryz.ntmps36
  go_upto_region 1 with fail
  go_wp2_with fail
  have hz : Blk (w.alloc (.cells #[.int .i64 0, .int .i64 1, .int .i64 (-1), .int .i64 (-1), .int .i64 2, .slice none 0 0, .slice none 0 0, .int .u8 44] 33)) w.heap.size 33 #[.int .i64 0, .int .i64 1, .int .i64 (-1), .int .i64 (-1), .int .i64 2, .slice none 0 0, .slice none 0 0, .int .u8 44] := Blk.new _ _ _
  obtain ⟨q0, q1, q2, q3, q4, q5, q6, q7⟩ := hz.c8m
  have hbz := bone w (.cells #[.int .i64 0, .int .i64 1, .int .i64 (-1), .int .i64 (-1), .int .i64 2, .slice none 0 0, .slice none 0 0, .int .u8 44] 33)
  generalize w.alloc (.cells #[.int .i64 0, .int .i64 1, .int .i64 (-1), .int .i64 (-1), .int .i64 2, .slice none 0 0, .slice none 0 0, .int .u8 44] 33) = wz at *
  refine bodyPost_ret (v := .agg #[.int .i64 0, .int .i64 1, .int .i64 (-1), .int .i64 (-1), .int .i64 2, .slice none 0 0, .slice none 0 0, .int .u8 44]) (by simp [results, Tryz.results36, go_sem, q0, q1, q2, q3, q4, q5, q6, q7]) rfl ?_
  exact ⟨rfl, hbz⟩
theorem log_lit (w : World) : IsLog (Lt (w.alloc (.cells #[.string (bsOf [99, 49]), .string (bsOf [98]), .string ⟨#[]⟩, .int .i64 5, .int .i64 3, .slice none 0 0, .string (bsOf [99, 49]), .string (bsOf [97]), .string ⟨#[]⟩, .int .i64 5, .int .i64 5, .slice none 0 0] 69)).heap.size) (w.alloc (.cells #[.string (bsOf [99, 49]), .string (bsOf [98]), .string ⟨#[]⟩, .int .i64 5, .int .i64 3, .slice none 0 0, .string (bsOf [99, 49]), .string (bsOf [97]), .string ⟨#[]⟩, .int .i64 5, .int .i64 5, .slice none 0 0] 69)) (.agg #[.slice (some ⟨w.heap.size, 0, none⟩) 2 2]) awS := by
  refine ⟨_, rfl, ?_⟩
  have hB := Blk.new w 69 #[.string (bsOf [99, 49]), .string (bsOf [98]), .string ⟨#[]⟩, .int .i64 5, .int .i64 3, .slice none 0 0, .string (bsOf [99, 49]), .string (bsOf [97]), .string ⟨#[]⟩, .int .i64 5, .int .i64 5, .slice none 0 0]
  have hfit : ∀ e ∈ awS, FitEv e := by
    intro e he
    simp only [awS, List.mem_cons, List.not_mem_nil, or_false] at he
    rcases he with rfl | rfl <;> exact ⟨by unfold maxLen; decide, by unfold maxLen; decide, by unfold maxLen; decide, by unfold Fit; simp, by unfold Fit; simp⟩
  refine Sl.ofBlk (size := 6) (cs := [.string (bsOf [99, 49]), .string (bsOf [98]), .string ⟨#[]⟩, .int .i64 5, .int .i64 3, .slice none 0 0, .string (bsOf [99, 49]), .string (bsOf [97]), .string ⟨#[]⟩, .int .i64 5, .int .i64 5, .slice none 0 0]) (xs := awS) hB (by unfold maxLen; decide) fun i x hx => ?_
  have hm := hfit x (List.mem_of_getElem? hx)
  match i, hx with
  | 0, hx =>
    injection hx with hx
    subst hx
    exact ⟨[.string (bsOf [99, 49]), .string (bsOf [98]), .string ⟨#[]⟩, .int .i64 5, .int .i64 3, .slice none 0 0], rfl, fun j u hu => by
      match j, hu with
      | 0, hu => exact hu
      | 1, hu => exact hu
      | 2, hu => exact hu
      | 3, hu => exact hu
      | 4, hu => exact hu
      | 5, hu => exact hu
      | j + 6, hu => simp at hu, _, rfl, hm, Sl.none_⟩
  | 1, hx =>
    injection hx with hx
    subst hx
    exact ⟨[.string (bsOf [99, 49]), .string (bsOf [97]), .string ⟨#[]⟩, .int .i64 5, .int .i64 5, .slice none 0 0], rfl, fun j u hu => by
      match j, hu with
      | 0, hu => exact hu
      | 1, hu => exact hu
      | 2, hu => exact hu
      | 3, hu => exact hu
      | 4, hu => exact hu
      | 5, hu => exact hu
      | j + 6, hu => simp at hu, _, rfl, hm, Sl.none_⟩
  | i + 2, hx => simp [awS] at hx
theorem rows_lit (w : World) : SlSS (Lt ((w.alloc (.cells #[.string ⟨#[120, 34, 121]⟩] 9)).alloc (.cells #[.slice (some ⟨w.heap.size, 0, none⟩) 1 1] 51)).heap.size) ((w.alloc (.cells #[.string ⟨#[120, 34, 121]⟩] 9)).alloc (.cells #[.slice (some ⟨w.heap.size, 0, none⟩) 1 1] 51)) (.slice (some ⟨w.heap.size + 1, 0, none⟩) 1 1) [[[120, 34, 121]]] := by
  have h1 := Blk.new w 9 #[.string ⟨#[120, 34, 121]⟩]
  have hs1 : (w.alloc (.cells #[.string ⟨#[120, 34, 121]⟩] 9)).heap.size = w.heap.size + 1 := by simp
  obtain ⟨w1, hw1⟩ : ∃ w1, w.alloc (.cells #[.string ⟨#[120, 34, 121]⟩] 9) = w1 := ⟨_, rfl⟩
  rw [hw1] at h1 hs1 ⊢
  have h2 := Blk.new w1 51 #[.slice (some ⟨w.heap.size, 0, none⟩) 1 1]
  have h12 := h1.now (bone w1 (.cells #[.slice (some ⟨w.heap.size, 0, none⟩) 1 1] 51))
  obtain ⟨w2, hw2⟩ : ∃ w2, w1.alloc (.cells #[.slice (some ⟨w.heap.size, 0, none⟩) 1 1] 51) = w2 := ⟨_, rfl⟩
  rw [hw2] at h2 h12 ⊢
  rw [hs1] at h2
  have hrow : SlP (Lt w2.heap.size) w2 (.slice (some ⟨w.heap.size, 0, none⟩) 1 1) [[120, 34, 121]] := SlS.ofBlk (zs := [⟨#[120, 34, 121]⟩]) h12 (by unfold maxLen; decide) (fun z hz => by
    rw [List.mem_singleton] at hz
    subst hz
    unfold maxLen
    decide)
  refine Sl.ofBlk (size := 1) (cs := [.slice (some ⟨w.heap.size, 0, none⟩) 1 1]) (xs := [[[120, 34, 121]]]) h2 (by unfold maxLen; decide) fun i x hx => ?_
  match i, hx with
  | 0, hx =>
    injection hx with hx
    subst hx
    exact ⟨[.slice (some ⟨w.heap.size, 0, none⟩) 1 1], rfl, fun j u hu => by
      match j, hu with
      | 0, hu => exact hu
      | j + 1, hu => simp at hu, _, rfl, hrow⟩
  | i + 1, hx => simp at hx
theorem aw_write : writeE 44 [[[120, 34, 121]]] = ([34, 120, 34, 34, 121, 34, 10], 0) := by rfl
set_option maxHeartbeats 8000000 in
set_option maxRecDepth 100000 in
theorem awake_any (w : World) (ha : AmbP w) : Calls Tryz.prog 10 #[] w fun e w' => e = .returned (.bool true) ∧ Below w.heap.size w w' := by
  have HP := Lib.hid plain_any
  have HI : Hid (∀ W, AmbP W → Calls Tryz.prog 16 #[.string awText, .agg #[.int .i64 0, .int .i64 1, .int .i64 (-1), .int .i64 (-1), .int .i64 2, .slice none 0 0, .slice none 0 0, .int .u8 44]] W (RetLog awS W)) := fun W hW => by
    have := import_few awText awHead awRows awEvs W (by decide) aw_cells rfl rfl (by decide) aw_good (by decide) (by decide) hW
    rwa [aw_sorted] at this
  unfold awText at HI
  have HWR : Hid (∀ W (v : Value), SlSS (Lt W.heap.size) W v [[[120, 34, 121]]] → AmbP W → Calls Tryz.prog 12 #[v, .int .u8 44] W fun e w' => e = .returned (.tuple #[.string ⟨#[34, 120, 34, 34, 121, 34, 10]⟩, .int .i64 0]) ∧ Below W.heap.size W w') := fun W v hv hW => by
    have := write_any [[[120, 34, 121]]] v 44 W hv ⟨by decide, by
      intro r hr
      rw [List.mem_singleton] at hr
      subst hr
      exact ⟨by decide, by
        intro b hb
        rw [List.mem_singleton] at hb
        subst hb
        decide⟩⟩ hW
    rw [aw_write] at this
    exact this
  have HAM := Lib.hid ha
  have HLL := Lib.hid log_lit
  have HRL := Lib.hid rows_lit
  clear ha
  go_enter Tryz.func10, Tryz.ntmps10
  go_wp2_with fail
  (with_reducible refine (HP.out _).mono ?_)
  rintro _ w1 ⟨rfl, hb1⟩
  have HB1 := Lib.hid hb1
  clear hb1
  go_wp2_with fail
  (with_reducible refine (HI.out _ (HAM.out.now HB1.out)).mono ?_)
  rintro _ w2 ⟨u, rfl, hlog, hb2⟩
  obtain ⟨ev, rfl, hsl⟩ := hlog
  obtain ⟨Ae, ce, rfl, _, _, hsl⟩ := hsl.open_
  have HSL := Lib.hid hsl
  have HB2 := Lib.hid (bthen HB1.out hb2)
  clear hsl hb2 HB1
  have hlen : awS.length = 2 := rfl
  rw [hlen] at HSL ⊢
  go_upto_region 2 with fail
  have hg1 := Blk.new w2 38 #[.slice Ae 2 ce]
  have hb3a := bone w2 (.cells #[.slice Ae 2 ce] 38)
  have hb3b := bone (w2.alloc (.cells #[.slice Ae 2 ce] 38)) (.cells #[.int .i64 0, .int .i64 0] 40)
  have HG3 := Lib.hid (hg1.now hb3b)
  have HB23 := Lib.hid (bthen hb3a hb3b)
  obtain ⟨w3, hw3⟩ : ∃ w3, (w2.alloc (.cells #[.slice Ae 2 ce] 38)).alloc (.cells #[.int .i64 0, .int .i64 0] 40) = w3 := ⟨_, rfl⟩
  rw [hw3] at HG3 HB23 ⊢
  clear hg1 hb3a hb3b hw3
  have HB3 := Lib.hid (bthen HB2.out HB23.out)
  have HSL3 : Hid (SlEv (Lt w3.heap.size) w3 (.slice Ae 2 ce) awS) := SlEv.now HSL.out HB23.out
  have HR4 := Lib.hid (HRL.out w3)
  have HB34 := Lib.hid (bthen (bone w3 (.cells #[.string ⟨#[120, 34, 121]⟩] 9)) (bone (w3.alloc (.cells #[.string ⟨#[120, 34, 121]⟩] 9)) (.cells #[.slice (some ⟨w3.heap.size, 0, none⟩) 1 1] 51)))
  have HW4 := Lib.hid (HWR.out _ _ HR4.out ((HAM.out.now HB3.out).now HB34.out))
  go_wp2_with fail
  (with_reducible refine HW4.out.mono ?_)
  rintro _ w5 ⟨rfl, hb5⟩
  have HB35 := Lib.hid (bthen HB34.out hb5)
  have HG5 := Lib.hid (HG3.out.now HB35.out)
  have HB5 := Lib.hid (bthen HB3.out HB35.out)
  have HSL5 : Hid (SlEv (Lt w5.heap.size) w5 (.slice Ae 2 ce) awS) := SlEv.now HSL3.out HB35.out
  clear hb5 HW4 HB34 HR4 HB35 HG3 HB3 HSL3
  have HLL5 := Lib.hid (HLL.out w5)
  have HB56 := Lib.hid (bone w5 (.cells #[.string (bsOf [99, 49]), .string (bsOf [98]), .string ⟨#[]⟩, .int .i64 5, .int .i64 3, .slice none 0 0, .string (bsOf [99, 49]), .string (bsOf [97]), .string ⟨#[]⟩, .int .i64 5, .int .i64 5, .slice none 0 0] 69))
  have HSM : Hid (Calls Tryz.prog 20 #[.agg #[.slice Ae 2 ce], .agg #[.slice (some ⟨w5.heap.size, 0, none⟩) 2 2]] (w5.alloc (.cells #[.string (bsOf [99, 49]), .string (bsOf [98]), .string ⟨#[]⟩, .int .i64 5, .int .i64 3, .slice none 0 0, .string (bsOf [99, 49]), .string (bsOf [97]), .string ⟨#[]⟩, .int .i64 5, .int .i64 5, .slice none 0 0] 69)) fun x w' => x = .returned (.bool true) ∧ Below (w5.alloc (.cells #[.string (bsOf [99, 49]), .string (bsOf [98]), .string ⟨#[]⟩, .int .i64 5, .int .i64 3, .slice none 0 0, .string (bsOf [99, 49]), .string (bsOf [97]), .string ⟨#[]⟩, .int .i64 5, .int .i64 5, .slice none 0 0] 69)).heap.size (w5.alloc (.cells #[.string (bsOf [99, 49]), .string (bsOf [98]), .string ⟨#[]⟩, .int .i64 5, .int .i64 3, .slice none 0 0, .string (bsOf [99, 49]), .string (bsOf [97]), .string ⟨#[]⟩, .int .i64 5, .int .i64 5, .slice none 0 0] 69)) w') :=
    logSame_ref awS _ _ _ ⟨_, rfl, SlEv.now HSL5.out HB56.out⟩ HLL5.out
  have g0 := HG5.out.c1
  have hbs1 : bsOf [99, 49] = ⟨#[99, 49]⟩ := rfl
  have hbs2 : bsOf [98] = ⟨#[98]⟩ := rfl
  have hbs3 : bsOf [97] = ⟨#[97]⟩ := rfl
  rw [hbs1, hbs2, hbs3] at HSM HB56
  clear hbs1 hbs2 hbs3 HLL HRL HWR HI HP HLL5 HAM HSL HB23
  go_wp2_with fail
  (with_reducible refine HSM.out.mono ?_)
  rintro _ w6 ⟨rfl, hb6⟩
  have HB6 := Lib.hid (bthen HB5.out (bthen HB56.out hb6))
  clear hb6
  go_wp2_with fail
  go_ret
  exact ⟨rfl, HB6.out⟩
end Go.Proofs.YtoalecalahkblaaGreatDoor

set_option linter.all false
namespace Go.Proofs.YtoalecalahkblaaGreatDoor
open Go.RowKit
def RetLong (s : ByteArray) (w : World) (e : Ending) (w' : World) : Prop := ∃ q, e = .returned (.bool q) ∧ (q = false → s.size ≤ 20000) ∧ w = w'
theorem long_any (s : ByteArray) (w : World) : Calls Tryz.prog 14 #[.string s] w (RetLong s w) := by
  have wk : ∀ (b : Bool) (h : b = false → s.size ≤ 20000), RetLong s w (.returned (.bool b)) w := fun b h => ⟨b, rfl, h, rfl⟩
  have WK := Lib.hid wk
  clear wk
  by_cases h1 : 3000 < s.size
  · have i1 : (3000 : Int) < (s.size : Int) := by omega
    by_cases h2 : s.size ≤ 16384
    · have i2 : (s.size : Int) ≤ 16384 := by omega
      go_enter Tryz.func14, Tryz.ntmps14
      go_wp2_with fail
      go_ret
      exact WK.out true (fun _ => by omega)
    · have i2 : ¬ (s.size : Int) ≤ 16384 := by omega
      by_cases h3 : 20000 < s.size
      · have i3 : (20000 : Int) < (s.size : Int) := by omega
        go_enter Tryz.func14, Tryz.ntmps14
        go_wp2_with fail
        go_ret
        exact WK.out true (fun h => by cases h)
      · have i3 : ¬ (20000 : Int) < (s.size : Int) := by omega
        go_enter Tryz.func14, Tryz.ntmps14
        go_wp2_with fail
        go_ret
        exact WK.out false (fun _ => by omega)
  · have i1 : ¬ (3000 : Int) < (s.size : Int) := by omega
    have i3 : ¬ (20000 : Int) < (s.size : Int) := by omega
    go_enter Tryz.func14, Tryz.ntmps14
    go_wp2_with fail
    go_ret
    exact WK.out false (fun _ => by omega)
theorem great_lenL {m : Mp} (hg : greatB m = false) : m.data.length ≤ 1000000 := by
  unfold greatB at hg
  rw [Bool.or_eq_false_iff] at hg
  have := of_decide_eq_false hg.1
  omega
set_option maxHeartbeats 4000000 in
set_option maxRecDepth 100000 in
theorem importsLogs_law (s : ByteArray) (m : Mp) (um : Value) (w : World) (_hs : s.size ≤ maxLen) (hm : IsMp (Lt w.heap.size) w um m) (ha : AmbP w) :
    Calls Tryz.prog 4 #[.string s, um] w fun e w' => e = .returned (.bool true) ∧ Below w.heap.size w w' := by
  have HAW := Lib.hid (fun W hW => awake_any W hW)
  have HMP := Lib.hid hm
  have HAM := Lib.hid ha
  have HLO := Lib.hid (fun W => long_any s W)
  have HGT := Lib.hid (fun W hW => great_any um m W hW)
  have HIM := Lib.hid (fun W h1 h2 h3 h4 => import_any s um m W h1 h2 h3 h4)
  have HIR := Lib.hid (fun W h1 h2 h3 => import_ref s um m W h1 h2 h3)
  have HVA := Lib.hid (fun W h1 h2 => valid_any um m W h1 h2)
  have HVR := Lib.hid (fun W h1 h2 => valid_ref um m W h1 h2)
  have HVL := Lib.hid (imp_valid s.data.toList m)
  obtain ⟨mv, kv, rfl, _, hmd, hmk⟩ := hm
  obtain ⟨Am, cm, rfl, _, _, hmd⟩ := hmd.open_
  obtain ⟨Ak, ck, rfl, _, _, hmk⟩ := hmk.open_
  unfold mpV at HMP HGT HIM HIR HVA HVR ⊢
  obtain ⟨z, hz⟩ : ∃ z, (m.sep.toNat : Int) = z := ⟨_, rfl⟩
  rw [hz] at HMP HGT HIM HIR HVA HVR ⊢
  obtain ⟨q2, hq2⟩ : ∃ q, greatB m = q := ⟨_, rfl⟩
  have HQ2 := Lib.hid hq2
  rw [hq2] at HGT
  obtain ⟨qm, hqm⟩ : ∃ q, mapB m = q := ⟨_, rfl⟩
  have HVA : Hid (∀ W, IsMp (Lt W.heap.size) W (.agg #[.int .i64 m.cas, .int .i64 m.act, .int .i64 m.res, .int .i64 m.life, .int .i64 m.time, .slice Am m.data.length cm, .slice Ak m.kinds.length ck, .int .u8 z]) m → m.data.length ≤ 1000000 → Calls Tryz.prog 18 #[.agg #[.int .i64 m.cas, .int .i64 m.act, .int .i64 m.res, .int .i64 m.life, .int .i64 m.time, .slice Am m.data.length cm, .slice Ak m.kinds.length ck, .int .u8 z]] W fun e w' => e = .returned (.bool qm) ∧ Below W.heap.size W w') := Lib.hid (fun W h1 h2 => by rw [← hqm]; exact HVA.out W h1 h2)
  have HVR : Hid (∀ W, IsMp (Lt W.heap.size) W (.agg #[.int .i64 m.cas, .int .i64 m.act, .int .i64 m.res, .int .i64 m.life, .int .i64 m.time, .slice Am m.data.length cm, .slice Ak m.kinds.length ck, .int .u8 z]) m → m.data.length ≤ 1000000 → Calls Tryz.prog 19 #[.agg #[.int .i64 m.cas, .int .i64 m.act, .int .i64 m.res, .int .i64 m.life, .int .i64 m.time, .slice Am m.data.length cm, .slice Ak m.kinds.length ck, .int .u8 z]] W fun e w' => e = .returned (.bool qm) ∧ Below W.heap.size W w') := Lib.hid (fun W h1 h2 => by rw [← hqm]; exact HVR.out W h1 h2)
  obtain ⟨p, hp⟩ : ∃ p, impE s.data.toList m = p := ⟨_, rfl⟩
  have HIM : Hid (∀ W, s.size ≤ 9223372036854775807 → IsMp (Lt W.heap.size) W (.agg #[.int .i64 m.cas, .int .i64 m.act, .int .i64 m.res, .int .i64 m.life, .int .i64 m.time, .slice Am m.data.length cm, .slice Ak m.kinds.length ck, .int .u8 z]) m → m.data.length ≤ 1000000 → AmbP W → Calls Tryz.prog 16 #[.string s, .agg #[.int .i64 m.cas, .int .i64 m.act, .int .i64 m.res, .int .i64 m.life, .int .i64 m.time, .slice Am m.data.length cm, .slice Ak m.kinds.length ck, .int .u8 z]] W (RetImp p W)) := Lib.hid (fun W h1 h2 h3 h4 => by rw [← hp]; exact HIM.out W h1 h2 h3 h4)
  have HIR : Hid (∀ W, s.size ≤ 9223372036854775807 → IsMp (Lt W.heap.size) W (.agg #[.int .i64 m.cas, .int .i64 m.act, .int .i64 m.res, .int .i64 m.life, .int .i64 m.time, .slice Am m.data.length cm, .slice Ak m.kinds.length ck, .int .u8 z]) m → m.data.length ≤ 1000000 → Calls Tryz.prog 17 #[.string s, .agg #[.int .i64 m.cas, .int .i64 m.act, .int .i64 m.res, .int .i64 m.life, .int .i64 m.time, .slice Am m.data.length cm, .slice Ak m.kinds.length ck, .int .u8 z]] W (RetImp p W)) := Lib.hid (fun W h1 h2 h3 => by rw [← hp]; exact HIR.out W h1 h2 h3)
  have HVL : Hid (logB p.1 = true) := Lib.hid (by rw [← hp]; exact HVL.out)
  obtain ⟨l, ⟨pa, pb⟩, pc⟩ := p
  dsimp only at HVL
  clear hmd hmk hz hq2 hqm hp ha
  have hb1 := bone w (.cells #[.int .i64 m.cas, .int .i64 m.act, .int .i64 m.res, .int .i64 m.life, .int .i64 m.time, .slice Am m.data.length cm, .slice Ak m.kinds.length ck, .int .u8 z] 33)
  have k1 := Blk.new w 33 #[.int .i64 m.cas, .int .i64 m.act, .int .i64 m.res, .int .i64 m.life, .int .i64 m.time, .slice Am m.data.length cm, .slice Ak m.kinds.length ck, .int .u8 z]
  go_enter Tryz.func4, Tryz.ntmps4
  go_upto_region 1 with fail
  obtain ⟨w1, hw1⟩ : ∃ w1, w.alloc (.cells #[.int .i64 m.cas, .int .i64 m.act, .int .i64 m.res, .int .i64 m.life, .int .i64 m.time, .slice Am m.data.length cm, .slice Ak m.kinds.length ck, .int .u8 z] 33) = w1 := ⟨_, rfl⟩
  rw [hw1] at hb1 k1 ⊢
  have HB1 := Lib.hid hb1
  have HK1 := Lib.hid k1
  have HA1 := Lib.hid (HAW.out w1 (HAM.out.now hb1))
  clear hw1 hb1 k1
  go_wp2_with fail
  (with_reducible refine HA1.out.mono ?_)
  rintro _ w2 ⟨rfl, hb2⟩
  have HB2 := Lib.hid (bthen HB1.out hb2)
  have HK2 := Lib.hid (HK1.out.now hb2)
  have HL2 := Lib.hid (HLO.out w2)
  have HG2 := Lib.hid (HGT.out w2 (HMP.out.now HB2.out))
  clear hb2 HA1 HB1 HK1
  obtain ⟨c0, c1, c2, c3, c4, c5, c6, c7⟩ := HK2.out.c8m
  go_wp2_with fail
  (with_reducible refine HL2.out.mono ?_)
  rintro _ w2' ⟨q1, rfl, hq1, rfl⟩
  have HQ1 := Lib.hid hq1
  clear hq1
  cases q1 with
  | true =>
    go_wp2_with fail
    go_ret
    exact ⟨rfl, HB2.out⟩
  | false =>
    have HSZ : Hid (s.size ≤ 9223372036854775807) := Lib.hid (by have := HQ1.out (by first | rfl | trivial); omega)
    go_wp2_with fail
    (with_reducible refine HG2.out.mono ?_)
    rintro _ w3 ⟨rfl, hb3⟩
    have HB3 := Lib.hid (bthen HB2.out hb3)
    have HK3 := Lib.hid (HK2.out.now hb3)
    clear hb3 HG2 HL2 HB2 HK2 c0 c1 c2 c3 c4 c5 c6 c7
    obtain ⟨c0, c1, c2, c3, c4, c5, c6, c7⟩ := HK3.out.c8m
    cases q2 with
    | true =>
      go_wp2_with fail
      go_ret
      exact ⟨rfl, HB3.out⟩
    | false =>
      have HMD := Lib.hid (great_lenL HQ2.out)
      have HI3 := Lib.hid (HIM.out w3 HSZ.out (HMP.out.now HB3.out) HMD.out (HAM.out.now HB3.out))
      go_wp2_with fail
      (with_reducible refine HI3.out.mono ?_)
      rintro _ w4 ⟨lv, rfl, hs4, hb4⟩
      dsimp only at hs4
      obtain ⟨A4, k4, rfl, _, _, hs4⟩ := hs4.open_
      have HS4 := Lib.hid hs4
      have HB4 := Lib.hid (bthen HB3.out hb4)
      have HK4 := Lib.hid (HK3.out.now hb4)
      clear hb4 hs4 HI3 HB3 HK3 c0 c1 c2 c3 c4 c5 c6 c7
      obtain ⟨c0, c1, c2, c3, c4, c5, c6, c7⟩ := HK4.out.c8m
      go_upto_region 6 with fail
      have hg1 := Blk.new w4 38 #[.slice A4 l.length k4]
      have hb3a := bone w4 (.cells #[.slice A4 l.length k4] 38)
      have hb3b := bone (w4.alloc (.cells #[.slice A4 l.length k4] 38)) (.cells #[.int .i64 pa, .int .i64 pb] 40)
      have hp1 := Blk.new (w4.alloc (.cells #[.slice A4 l.length k4] 38)) 40 #[.int .i64 pa, .int .i64 pb]
      have hs1 : (w4.alloc (.cells #[.slice A4 l.length k4] 38)).heap.size = w4.heap.size + 1 := by simp
      rw [hs1] at hp1
      have hg1 := hg1.now hb3b
      have hbn := bthen hb3a hb3b
      obtain ⟨w5, hw5⟩ : ∃ w5, (w4.alloc (.cells #[.slice A4 l.length k4] 38)).alloc (.cells #[.int .i64 pa, .int .i64 pb] 40) = w5 := ⟨_, rfl⟩
      rw [hw5] at hg1 hbn hp1 ⊢
      have HG5 := Lib.hid hg1
      have HP5 := Lib.hid hp1
      have HN5 := Lib.hid hbn
      clear hg1 hb3a hb3b hw5 hp1 hs1 hbn
      have HB5 := Lib.hid (bthen HB4.out HN5.out)
      have HK5 := Lib.hid (HK4.out.now HN5.out)
      have HS5 := Lib.hid (SlEv.now HS4.out HN5.out)
      have HI5 := Lib.hid (HIR.out w5 HSZ.out (HMP.out.now HB5.out) HMD.out)
      clear HS4 HB4 HK4 HN5 c0 c1 c2 c3 c4 c5 c6 c7
      obtain ⟨c0, c1, c2, c3, c4, c5, c6, c7⟩ := HK5.out.c8m
      obtain ⟨g5, hg5⟩ : ∃ g5, w4.heap.size = g5 := ⟨_, rfl⟩
      rw [hg5] at HG5 HP5 ⊢
      clear hg5
      go_wp2_with fail
      (with_reducible refine HI5.out.mono ?_)
      rintro _ w6 ⟨lv, rfl, hs6, hb6⟩
      dsimp only at hs6
      obtain ⟨A6, k6, rfl, _, _, hs6⟩ := hs6.open_
      have HS6 := Lib.hid hs6
      have HS56 := Lib.hid (SlEv.now HS5.out hb6)
      have HB6 := Lib.hid (bthen HB5.out hb6)
      have HK6 := Lib.hid (HK5.out.now hb6)
      have HG56 := Lib.hid (HG5.out.now hb6)
      have HP56 := Lib.hid (HP5.out.now hb6)
      clear hb6 hs6 HI5 HB5 HK5 HG5 HP5 HS5 c0 c1 c2 c3 c4 c5 c6 c7
      go_upto_region 7 with fail
      have hg1 := Blk.new w6 38 #[.slice A6 l.length k6]
      have hb3a := bone w6 (.cells #[.slice A6 l.length k6] 38)
      have hb3b := bone (w6.alloc (.cells #[.slice A6 l.length k6] 38)) (.cells #[.int .i64 pa, .int .i64 pb] 40)
      have hp1 := Blk.new (w6.alloc (.cells #[.slice A6 l.length k6] 38)) 40 #[.int .i64 pa, .int .i64 pb]
      have hs1 : (w6.alloc (.cells #[.slice A6 l.length k6] 38)).heap.size = w6.heap.size + 1 := by simp
      rw [hs1] at hp1
      have hg1 := hg1.now hb3b
      have hbn := bthen hb3a hb3b
      obtain ⟨w7, hw7⟩ : ∃ w7, (w6.alloc (.cells #[.slice A6 l.length k6] 38)).alloc (.cells #[.int .i64 pa, .int .i64 pb] 40) = w7 := ⟨_, rfl⟩
      rw [hw7] at hg1 hbn hp1 ⊢
      have HG7 := Lib.hid hg1
      have HP7 := Lib.hid hp1
      have HN7 := Lib.hid hbn
      clear hg1 hb3a hb3b hw7 hp1 hs1 hbn
      have HB7 := Lib.hid (bthen HB6.out HN7.out)
      have HK7 := Lib.hid (HK6.out.now HN7.out)
      have HS7 := Lib.hid (SlEv.now HS6.out HN7.out)
      have HS57 := Lib.hid (SlEv.now HS56.out HN7.out)
      have HG57 := Lib.hid (HG56.out.now HN7.out)
      have HP57 := Lib.hid (HP56.out.now HN7.out)
      obtain ⟨g7, hg7⟩ : ∃ g7, w6.heap.size = g7 := ⟨_, rfl⟩
      rw [hg7] at HG7 HP7 ⊢
      clear hg7 HS6 HS56 HB6 HK6 HG56 HP56 HN7
      have HC1 : Hid (∀ W, Calls Tryz.prog 18 #[.agg #[.int .i64 m.cas, .int .i64 m.act, .int .i64 m.res, .int .i64 m.life, .int .i64 m.time, .slice Am m.data.length cm, .slice Ak m.kinds.length ck, .int .u8 z]] (ext w7 W) fun e w' => e = .returned (.bool qm) ∧ Below (ext w7 W).heap.size (ext w7 W) w') := Lib.hid (fun W => HVA.out _ ((HMP.out.now HB7.out).now (ext_below w7 W)) HMD.out)
      have HC2 : Hid (∀ W, Calls Tryz.prog 19 #[.agg #[.int .i64 m.cas, .int .i64 m.act, .int .i64 m.res, .int .i64 m.life, .int .i64 m.time, .slice Am m.data.length cm, .slice Ak m.kinds.length ck, .int .u8 z]] (ext w7 W) fun e w' => e = .returned (.bool qm) ∧ Below (ext w7 W).heap.size (ext w7 W) w') := Lib.hid (fun W => HVR.out _ ((HMP.out.now HB7.out).now (ext_below w7 W)) HMD.out)
      have HC3 : Hid (∀ W, Calls Tryz.prog 20 #[.agg #[.slice A4 l.length k4], .agg #[.slice A6 l.length k6]] (ext w7 W) fun e w' => e = .returned (.bool true) ∧ Below (ext w7 W).heap.size (ext w7 W) w') := Lib.hid (fun W => logSame_ref l _ _ _ ⟨_, rfl, SlEv.now HS57.out (ext_below w7 W)⟩ ⟨_, rfl, SlEv.now HS7.out (ext_below w7 W)⟩)
      have HC4 : Hid (∀ W, Calls Tryz.prog 21 #[.agg #[.slice A4 l.length k4]] (ext w7 W) fun e w' => e = .returned (.bool true) ∧ Below (ext w7 W).heap.size (ext w7 W) w') := Lib.hid (fun W => by rw [← HVL.out]; exact logValid_ref l _ _ ⟨_, rfl, SlEv.now HS57.out (ext_below w7 W)⟩)
      have r0 : ∀ W, (ext w7 W).cell? ⟨g5, 0, none⟩ = some (.slice A4 l.length k4) := fun W => (HG57.out.now (ext_below w7 W)).c1
      have r1 : ∀ W, (ext w7 W).cell? ⟨g7, 0, none⟩ = some (.slice A6 l.length k6) := fun W => (HG7.out.now (ext_below w7 W)).c1
      have r2 : ∀ W, (ext w7 W).cell? ⟨g5 + 1, 0, none⟩ = some (.int .i64 pa) := fun W => (HP57.out.now (ext_below w7 W)).c2.1
      have r3 : ∀ W, (ext w7 W).cell? ⟨g5 + 1, 1, none⟩ = some (.int .i64 pb) := fun W => (HP57.out.now (ext_below w7 W)).c2.2
      have r4 : ∀ W, (ext w7 W).cell? ⟨g7 + 1, 0, none⟩ = some (.int .i64 pa) := fun W => (HP7.out.now (ext_below w7 W)).c2.1
      have r5 : ∀ W, (ext w7 W).cell? ⟨g7 + 1, 1, none⟩ = some (.int .i64 pb) := fun W => (HP7.out.now (ext_below w7 W)).c2.2
      have s0 : ∀ W, (ext w7 W).cell? ⟨w.heap.size, 0, none⟩ = some (.int .i64 m.cas) := fun W => (HK7.out.now (ext_below w7 W)).cell 0
      have s1 : ∀ W, (ext w7 W).cell? ⟨w.heap.size, 1, none⟩ = some (.int .i64 m.act) := fun W => (HK7.out.now (ext_below w7 W)).cell 1
      have s2 : ∀ W, (ext w7 W).cell? ⟨w.heap.size, 2, none⟩ = some (.int .i64 m.res) := fun W => (HK7.out.now (ext_below w7 W)).cell 2
      have s3 : ∀ W, (ext w7 W).cell? ⟨w.heap.size, 3, none⟩ = some (.int .i64 m.life) := fun W => (HK7.out.now (ext_below w7 W)).cell 3
      have s4 : ∀ W, (ext w7 W).cell? ⟨w.heap.size, 4, none⟩ = some (.int .i64 m.time) := fun W => (HK7.out.now (ext_below w7 W)).cell 4
      have s5 : ∀ W, (ext w7 W).cell? ⟨w.heap.size, 5, none⟩ = some (.slice Am m.data.length cm) := fun W => (HK7.out.now (ext_below w7 W)).cell 5
      have s6 : ∀ W, (ext w7 W).cell? ⟨w.heap.size, 6, none⟩ = some (.slice Ak m.kinds.length ck) := fun W => (HK7.out.now (ext_below w7 W)).cell 6
      have s7 : ∀ W, (ext w7 W).cell? ⟨w.heap.size, 7, none⟩ = some (.int .u8 z) := fun W => (HK7.out.now (ext_below w7 W)).cell 7
      have HB7 := HB7
      clear HVA HVR HMP HMD HSZ HIM HIR HLO HGT HVL HQ1 HQ2 HAW HAM HK7 HG57 HG7 HP57 HP7 HS57 HS7
      refine wp_region_growV (by kernel_rfl) (by kernel_rfl) ?_
      repeat (refine veil_step (fun K hK => ?_); go_simp; first | (refine hK _ ?_; clear hK K) | (apply Exists.intro; refine ⟨fun Wq => ?_, hK _ ?_⟩; (first | (go_at_call 18; exact grow_of (HC1.out Wq)) | (go_at_call 19; exact grow_of (HC2.out Wq)) | (go_at_call 20; exact grow_of (HC3.out Wq)) | (go_at_call 21; exact grow_of (HC4.out Wq))); clear hK K))
      refine veil_nil ?_
      intro _ hw'
      obtain ⟨W, rfl⟩ := hw'
      go_wp2_with fail
      go_ret
      exact ⟨rfl, bthen HB7.out (ext_below w7 W)⟩
end Go.Proofs.YtoalecalahkblaaGreatDoor

set_option linter.all false
namespace Go.Proofs.YtoalecalahkblaaGreatDoor
open Go.ChangeShapes Go.WideShapes Go.RowKit Go.Deep
theorem add_lit' (b o n j : Nat) : ((⟨b, o, none⟩ : Addr).add n).add j = ⟨b, o + n + j, none⟩ := by
  rw [add_add']; unfold Addr.add
  by_cases h : n + j = 0
  · have h1 : n = 0 := by omega
    have h2 : j = 0 := by omega
    subst h1 h2; rfl
  · rw [if_neg h]; simp [Nat.add_assoc]
theorem cell_spot {w : World} {a : Addr} {u : Value} (h : w.cell? a = some u) : a = ⟨a.block, a.off, none⟩ ∧ a.block < w.heap.size := by
  obtain ⟨b, o, s⟩ := a
  unfold World.cell? at h
  cases s with
  | none =>
    refine ⟨rfl, ?_⟩
    rcases Nat.lt_or_ge b w.heap.size with h' | h'
    · exact h'
    · simp [Array.getElem?_eq_none h'] at h
  | some s => split at h <;> simp at h
section
variable {H : Type} {enc : TypeId × Value → H} {P : Program} {w : World} {base : Nat} {spare : Nat → Bool} {held : Bool}
theorem Sl.of_trod {α : Type} [Inhabited α] {size : Nat} {R : ElemR α} {t e : TypeId} {fuel : Nat} {v : Value} {x : DataW H × List MemPlace} (ht : P.underlying t = some (.slice e)) (hsz : P.cellsOf e = size) (hs0 : 0 < size)
    (hR : ∀ (fuel' : Nat) (cs : List Value) (y : DataW H × List MemPlace), DataW.trod enc P w base spare held fuel' e cs = some y → ∃ z, R (Lt w.heap.size) w z cs)
    (h : DataW.trod enc P w base spare held fuel t [v] = some x) : ∃ xs, Sl size R (Lt w.heap.size) w v xs := by
  rcases open_slice ht h with ⟨hv, _⟩ | ⟨a, len, cap, m, n, D, Pl, hv, _, hl, hm, hmm, _, hi⟩
  · injection hv with hv; subst hv; exact ⟨[], Sl.none_⟩
  · injection hv with hv
    subst hv
    have hlm : len ≤ m := by rw [hmm]; split <;> omega
    have key : ∀ i, ∃ z : α, i < len → ∃ cs : List Value, cs.length = size ∧ R (Lt w.heap.size) w z cs ∧ ∀ j, j < size → w.cell? ((a.add (i * size)).add j) = cs[j]? := by
      intro i
      by_cases hlt : i < len
      · obtain ⟨cs', hc, htr⟩ := hi i (by omega)
        rw [hsz] at hc
        obtain ⟨z, hz⟩ := hR _ _ _ htr
        obtain ⟨_, hcl, hat⟩ := World.cells?_some hc
        exact ⟨z, fun _ => ⟨cs', hcl, hz, hat⟩⟩
      · exact ⟨default, fun h' => absurd h' hlt⟩
    refine ⟨(List.range len).map fun i => Classical.choose (key i), some a, cap, by simp, by simpa using hl, hm, fun i z hz => ?_⟩
    rw [List.getElem?_map] at hz
    have hlt : i < len := by
      rcases Nat.lt_or_ge i len with h' | h'
      · exact h'
      · rw [List.getElem?_eq_none (by simpa using h')] at hz; simp at hz
    rw [List.getElem?_range hlt] at hz
    injection hz with hz
    obtain ⟨cs, hcl, hr, hat⟩ := Classical.choose_spec (key i) hlt
    obtain ⟨cs0, hcl0, _, hat0⟩ := Classical.choose_spec (key 0) (by omega)
    have h00 := hat0 0 hs0
    have hc0 : cs0[0]? = some (cs0[0]'(by omega)) := List.getElem?_eq_getElem (by omega)
    rw [hc0] at h00
    have ha0 : (a.add (0 * size)).add 0 = a := by simp [Addr.add]
    rw [ha0] at h00
    obtain ⟨ha, hblk⟩ := cell_spot h00
    replace hz : Classical.choose (key i) = z := hz
    rw [hz] at hr
    refine ⟨a.block, a.off, cs, by rw [← ha], hblk, hcl, hr, fun j u hu => ?_⟩
    have hj : j < size := by
      rcases Nat.lt_or_ge j cs.length with h' | h'
      · omega
      · rw [List.getElem?_eq_none h'] at hu; cases hu
    have := hat j hj
    rw [ha, add_lit'] at this
    rw [this, hu]
theorem fit_of_wf {n : Int} (h : (Lit.int .i64 n).wf = true) : Fit n := by
  have h' : decide ((-9223372036854775808 : Int) ≤ n) = true ∧ decide (n ≤ (9223372036854775807 : Int)) = true := by
    rw [← Bool.and_eq_true]; exact h
  unfold Fit
  simpa using h'
theorem SlI.of_trod {t e : TypeId} {fuel : Nat} {v : Value} {x : DataW H × List MemPlace} (ht : P.underlying t = some (.slice e)) (he : P.underlying e = some (.int .i64)) (hc : P.cellsOf e = 1)
    (h : DataW.trod enc P w base spare held fuel t [v] = some x) : ∃ zs, SlI (Lt w.heap.size) w v zs :=
  Sl.of_trod ht hc (by omega) (fun _ cs y hy => by
    obtain ⟨k, e1, e2, e3⟩ := DataW.trod_int he hy
    exact ⟨k, e1, fit_of_wf e3⟩) h
theorem SlS.of_trod {t e : TypeId} {fuel : Nat} {v : Value} {x : DataW H × List MemPlace} (ht : P.underlying t = some (.slice e)) (he : P.underlying e = some .string) (hc : P.cellsOf e = 1)
    (h : DataW.trod enc P w base spare held fuel t [v] = some x) : ∃ zs, SlS (Lt w.heap.size) w v zs :=
  Sl.of_trod ht hc (by omega) (fun _ cs y hy => by
    obtain ⟨k, e1, e2, e3⟩ := DataW.trod_string he hy
    exact ⟨k, e1, e3⟩) h
theorem post_of_below {f : Func} {s : ChangeSpec} {apart fresh handsOn again : Bool} {W W' : World} {args : Array Value} {v : Value} {ds gs : List (DataW H)} {before pa pv : List MemPlace}
    (hW : DataW.Whole enc P f.params.toList s.vars apart W args.toList ds gs before)
    (hres : ∀ (b : Nat) (sp : Nat → Bool) (hd : Bool), DataW.TrodAll enc P W' b sp hd f.resultTypes.toList (v.resultList f.resultTypes.size) (s.fn H (ds ++ gs)).results [])
    (hargs : ∀ sp : Nat → Bool, (∀ p ∈ before, sp p.block = true) → DataW.TrodAll enc P W' 0 sp true f.params.toList args.toList (s.fn H (ds ++ gs)).args pa)
    (hvars : ∀ sp : Nat → Bool, (∀ p ∈ before, sp p.block = true) → DataW.TrodVars enc P W' sp s.vars (s.fn H (ds ++ gs)).vars pv)
    (hps : before = pa ++ pv) (hb : Below W.heap.size W W')
    (hok : ∀ (j : Nat) (t : TypeId) (r : Value), f.resultTypes[j]? = some t → (v.resultList f.resultTypes.size)[j]? = some r → Value.okWide P W' .any 0 t r) :
    s.post enc P f apart fresh handsOn again W args v W' := by
  have hlt : ∀ p ∈ before, p.block < W.heap.size := fun p hp => hW.lt p hp
  have hold : ∀ p ∈ before, (fun b => decide (b < W.heap.size)) p.block = true := fun p hp => by simpa using hlt p hp
  refine ⟨ds, gs, before, [], pa, pv, hW, hres _ _ _, hargs _ hold, hvars _ hold, World.keptBut_mono (fun p hp => ⟨hp, ?_⟩) (hb.frame (· ∈ before)), fun _ => ?_⟩
  · rw [hps, List.mem_append] at hp
    exact Or.inr hp
  · obtain ⟨_, _, _, _, _, hz, hn⟩ := hW
    refine ⟨hok, _, _, ([] ++ pa) ++ pv, ⟨[] ++ pa, pv, trodAll_append (hargs _ (fun _ _ => rfl)) (hres _ _ _), hvars _ (fun _ _ => rfl), rfl, ?_, ?_⟩, ?_⟩
    · intro b off hp
      have hin : MemPlace.cell b off ∈ before := by rw [hps]; simpa using hp
      rw [hb.frozen (hlt _ hin)]
      exact hz b off hin
    · intro ha
      have := hn ha
      rw [hps] at this
      simpa using this
    · intro p hp _
      rw [hps]
      simpa using hp
end
end Go.Proofs.YtoalecalahkblaaGreatDoor
