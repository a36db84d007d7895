/- Texts of this seat, merged. -/
import Derived.Deep.QuietTactic
import Derived.BigQuiet
import Derived.WalkKit
import Derived.WalkSpells
import Derived.WalkLawsBesides
import Derived.Lib.Hide
import Derived.Deep.Draws
import Derived.Deep.OwnRows
import Derived.Test.YtijmnenojbfdnaaGreatDoorEq01
import Derived.Test.YtijmnenojbfdnaaGreatDoorEq02
import Derived.Test.YtijmnenojbfdnaaGreatDoorEq03
import Derived.Test.YtijmnenojbfdnaaGreatDoorEq04
set_option linter.unusedSimpArgs false
set_option linter.unusedVariables false
namespace Go.Proofs.YtijmnenojbfdnaaGreatDoor
open Go.RowKit
theorem perm_of_subset : ∀ (A ls : List Bs), A.Nodup → (∀ x ∈ A, x ∈ ls) → ls.length = A.length → ls.Perm A := by
  intro A
  induction A with
  | nil => intro ls _ _ h; have : ls = [] := List.eq_nil_of_length_eq_zero h; rw [this]
  | cons a A ih =>
    intro ls hn hs hl
    rw [List.nodup_cons] at hn
    have ha := hs a (by simp)
    have h1 : ls.Perm (a :: ls.erase a) := List.perm_cons_erase ha
    have h2 := ih (ls.erase a) hn.2 (fun x hx => by
      rw [List.mem_erase_of_ne (fun e => by subst e; exact hn.1 hx)]
      exact hs x (by simp [hx])) (by rw [List.length_erase_of_mem ha, hl]; simp)
    exact h1.trans (h2.cons a)
theorem once_iff (ls : List Bs) : onceB ls = decide ((setB ls).length = ls.length) := by
  unfold onceB
  rw [decide_eq_decide]
  constructor
  · intro h
    exact ((List.perm_ext_iff_of_nodup (asc_nodup (setB_asc ls)) h).2 (fun x => setB_mem ls x)).length_eq
  · intro h
    have := perm_of_subset (setB ls) ls (asc_nodup (setB_asc ls)) (fun x hx => (setB_mem ls x).1 hx) h.symm
    exact this.nodup_iff.2 (asc_nodup (setB_asc ls))
def AsksS (k : FuncId) (w : World) (xs : List ByteArray) (p : ByteArray → Bool) : Prop :=
  ∀ (x : ByteArray) (w1 : World), x ∈ xs → x.size ≤ maxLen → Below w.heap.size w w1 → Calls Tryz.prog k #[.string x] w1 fun e w2 => e = .returned (.bool (p x)) ∧ Below w1.heap.size w1 w2
set_option maxHeartbeats 400000 in
theorem indexFuncS (k : FuncId) (eg : ∀ args w, (callFunc k args).run Tryz.prog w = .ok (.enter k args) w) (tv : Value) (ts : List ByteArray) (p : ByteArray → Bool) (w : World) (ht : SlS (Lt w.heap.size) w tv ts) (hf : AsksS k w ts p) :
    Calls Tryz.prog 77 #[tv, .func (.func k) #[] #[]] w fun e w' => ∃ z : Int, e = .returned (.int .i64 z) ∧ decide (0 ≤ z) = ts.any p ∧ Below w.heap.size w w' := by
  obtain ⟨A, c, rfl, h1, h2, ht⟩ := ht.open_
  have HF := Lib.hid hf
  clear hf
  go_enter Tryz.func77, Tryz.ntmps77
  go_wp2_with fail
  go_loopw [8] (fun i wr => ∃ j : Nat, j ≤ ts.length ∧ i = .int .i64 j ∧ (∀ q t, q < j → ts[q]? = some t → p t = false) ∧ Below w.heap.size w wr) (fun i _ => ts.length - (intOf i).toNat)
  case atStart => exact ⟨0, Nat.zero_le _, rfl, fun q _ h => absurd h (by omega), Below.refl _ _⟩
  case round =>
    obtain ⟨j, hj, rfl, hp, hb⟩ := hrel
    have HP := Lib.hid hp
    clear hp
    by_cases hlt : j < ts.length
    · obtain ⟨b, o, t, rfl, hD, hx, hf, c0⟩ := (ht.now hb).at_ hlt
      have hcall := HF.out t wr (List.mem_of_getElem? hx) hf hb
      have HX := Lib.hid hx
      clear hx
      generalize hq : p t = q at *
      have HQ := Lib.hid hq
      have HC := Lib.hid hcall
      clear hcall hq
      cases q
      · go_wp2_with (go_at_fn k; refine HC.out.mono ?_; rintro e w' ⟨rfl, hb'⟩)
        go_roundw
        case rel =>
          refine ⟨j + 1, by omega, by go_num, fun q y hq hy => ?_, bthen hb hb'⟩
          by_cases e : q = j
          · subst e; rw [HX.out] at hy; injection hy with hy; subst hy; exact HQ.out
          · exact HP.out q y (by omega) hy
        case measure => simp [intOf]; omega
      · go_wp2_with (go_at_fn k; refine HC.out.mono ?_; rintro e w' ⟨rfl, hb'⟩)
        go_ret
        refine ⟨_, rfl, ?_, bthen hb hb'⟩
        rw [List.any_eq_true.2 ⟨t, List.mem_of_getElem? HX.out, HQ.out⟩]
        simp
    · go_wp2_with fail
      go_ret
      refine ⟨_, rfl, ?_, hb⟩
      rw [any_false_of _ ts (fun q y hq hy => HP.out q y (by omega) hy)]
      simp
theorem containsFuncS (k : FuncId) (eg : ∀ args w, (callFunc k args).run Tryz.prog w = .ok (.enter k args) w) (tv : Value) (ts : List ByteArray) (p : ByteArray → Bool) (w : World) (ht : SlS (Lt w.heap.size) w tv ts) (hf : AsksS k w ts p) :
    Calls Tryz.prog 41 #[tv, .func (.func k) #[] #[]] w fun e w' => e = .returned (.bool (ts.any p)) ∧ Below w.heap.size w w' := by
  have HC := Lib.hid (indexFuncS k eg tv ts p w ht hf)
  clear hf ht
  go_enter Tryz.func41, Tryz.ntmps41
  go_wp2_with (go_at_call 77; refine HC.out.mono ?_; rintro e w' ⟨z, rfl, hz, hb'⟩)
  go_ret
  exact ⟨rfl, hb'⟩
set_option maxHeartbeats 400000 in
theorem validVar1_any (s : ByteArray) (w : World) (hs : s.size ≤ maxLen) : Calls Tryz.prog 168 #[.string s] w fun e w' => e = .returned (.bool (!textB s)) ∧ Below w.heap.size w w' := by
  have HT := Lib.hid (text_any s w hs)
  clear hs
  generalize textB s = q at *
  go_enter Tryz.func168, Tryz.ntmps168
  go_wp2_with (go_at_call 154; refine HT.out.mono ?_; rintro e w' ⟨rfl, hb⟩)
  go_ret
  exact ⟨rfl, hb⟩
theorem cloneS (v : Value) (zs : List ByteArray) (w : World) (h : SlS (Lt w.heap.size) w v zs) (hz : zs.length ≤ 1000000) :
    Calls Tryz.prog 169 #[v] w fun e w' => ∃ v', e = .returned v' ∧ w'.ownsRow w.heap.size 9 1 v' zs.length (zs.map Value.string) ∧ Below w.heap.size w w' := by
  obtain ⟨A, c, rfl, h1, h2, h⟩ := h.open_
  by_cases hn : 0 < zs.length
  · obtain ⟨b, o, rfl, hD, _, hc⟩ := h.cells hn
    refine (Tryz.slices_Clone_string b o zs.length c zs w (Nat.le_refl _) (by omega) hc).mono ?_
    rintro e w' ⟨v', rfl, ho, _, hb⟩
    rw [List.take_of_length_le (Nat.le_refl _)] at ho
    exact ⟨v', rfl, ho, hb⟩
  · have : zs = [] := List.eq_nil_of_length_eq_zero (by omega)
    subst this
    rcases A with _ | a
    · refine (Tryz.slices_Clone_string_nil _ _ w).mono ?_
      rintro e w' ⟨rfl, rfl⟩
      exact ⟨_, rfl, World.ownsRow_nil _ _ _ _, Below.refl _ _⟩
    · refine (Tryz.slices_Clone_string_zero a c w).mono ?_
      rintro e w' ⟨v', rfl, ho, _, hb⟩
      exact ⟨v', rfl, ho, hb⟩
theorem own_bytes {w : World} {base : Nat} {v : Value} {zs : List ByteArray} (h : w.ownsRow base 9 1 v zs.length (zs.map Value.string)) : OwnS w base v (bytesOf zs) := by
  unfold OwnS bytesOf
  rw [List.length_map, List.map_map]
  have : (encStr ∘ fun s : ByteArray => s.data.toList) = Value.string := by
    funext s
    show Value.string (mkS s.data.toList) = _
    rw [mkS_of]
  rw [this]
  exact h
end Go.Proofs.YtijmnenojbfdnaaGreatDoor
