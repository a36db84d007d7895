/- casebookref21.One, some and Same (of equal nets). -/
import Derived.Test.YtphdafhidhfmnaaDoorIncRef
import Derived.Test.YtphdafhidhfmnaaDoorSame
namespace Go.Proofs.YtphdafhidhfmnaaDoor
open Go.RowKit

def RetI (zs : List Int) (w : World) (e : Ending) (w' : World) : Prop := ∃ v, e = .returned v ∧ SlI (Lt w'.heap.size) w' v zs ∧ Below w.heap.size w w'

set_option maxHeartbeats 1000000 in
theorem one_ref (n : Net) (v : Value) (p : Int) (w : World) (h : IsNet (Lt w.heap.size) w v n) (hv : validB n = true) (hpp : 0 ≤ p ∧ p < n.places) :
    Calls Tryd.prog 44 #[v, .int .i64 p] w (RetI (oneB n p) w) := by
  obtain ⟨v1, v2, v3, v4⟩ := validOk hv
  clear v4 hv
  obtain ⟨tv, rfl, hp, hs, hkk, ht⟩ := h
  obtain ⟨A, c, rfl, h1, h2, ht⟩ := ht.open_
  obtain ⟨p1, p2⟩ := hpp
  obtain ⟨k, rfl⟩ := Int.eq_ofNat_of_zero_le p1
  obtain ⟨P, hP⟩ := Int.eq_ofNat_of_zero_le (show 0 ≤ n.places by omega)
  have HO : Hid (oneB n (k : Int) = (List.replicate P 0).set k 1) := by show oneB n _ = _; unfold oneB; rw [hP]; rfl
  have hkP : k < P := by omega
  have hP40 : P ≤ 40 := by omega
  rw [hP]
  clear hP hp v1 v2 p1 p2
  have hb := bone w (.cells #[.int .i64 P, .slice A n.trans.length c, .int .i64 n.source, .int .i64 n.sink] 24)
  have hmk := run_make_n (P := Tryd.prog) 25 3 (.int .i64 0) 8 Tryd.underlying25 intInfo P (by omega) (by omega) rfl
  have hown := OwnF.made (f := Value.int .i64) (w.alloc (.cells #[.int .i64 P, .slice A n.trans.length c, .int .i64 n.source, .int .i64 n.sink] 24)) 3 P 0 (by unfold maxLen; omega)
  have hcell := hown.cell (k := k) (x := 0) (by simp [hkP])
  have hfro := hown.frozen k
  simp only [World.size_alloc] at hcell hfro
  have i1 : (k : Int) < (P : Int) := by omega
  go_enter Tryd.func44, Tryd.ntmps44
  go_wp2_with fail
  go_ret
  rw [HO.out]
  have hf := hown.set_ k 1
  refine ⟨_, rfl, ?_, bbox hb _⟩
  have := hf.slI (fun z hz => by
    rcases List.mem_or_eq_of_mem_set hz with h | h
    · rw [List.mem_replicate] at h; rw [h.2]; unfold Fit; omega
    · rw [h]; unfold Fit; omega)
  rw [setCell_new] at this
  simpa using this

set_option maxHeartbeats 400000 in
theorem some_ref (u v : Value) (xs ys : List Int) (w : World) (hu : SlI (Lt w.heap.size) w u xs) (hv : SlI (Lt w.heap.size) w v ys) :
    Calls Tryd.prog 71 #[u, v] w fun e w' => e = .returned (.bool (xs.any fun x => ys.contains x)) ∧ w = w' := by
  have HC := Lib.hid (fun x => has_ref v ys x w hv)
  obtain ⟨A, c, rfl, h1, h2, hu⟩ := hu.open_
  obtain ⟨A', c', rfl, h1', h2', hv⟩ := hv.open_
  generalize hc : (xs.any fun x => ys.contains x) = r
  have HR := Lib.hid hc
  clear hc
  go_enter Tryd.func71, Tryd.ntmps71
  go_wp2_with fail
  go_loop [5] (fun i => ∃ k : Nat, k ≤ xs.length ∧ i = .int .i64 k ∧ ∀ j y, j < k → xs[j]? = some y → ys.contains y = false) (fun i => xs.length - (intOf i).toNat)
  case atStart => exact ⟨0, Nat.zero_le _, rfl, fun j _ h => absurd h (by omega)⟩
  case round =>
    obtain ⟨k, hk, rfl, hp⟩ := hrel
    have HP := Lib.hid hp
    clear hp
    by_cases hlt : k < xs.length
    · obtain ⟨b, o, y, rfl, hD, hx, hf, hcell⟩ := hu.at_ hlt
      have HX := Lib.hid hx
      have HCY := Lib.hid (HC.out y)
      clear hx
      cases hq : ys.contains y with
      | true =>
        rw [hq] at HCY
        have HQ := Lib.hid hq
        clear hq
        have HE : Hid ((xs.any fun x => ys.contains x) = true) := by
          show (xs.any fun x => ys.contains x) = true
          rw [List.any_eq_true]; exact ⟨y, List.mem_of_getElem? HX.out, HQ.out⟩
        go_wp2_with (go_at_call 58; refine HCY.out.mono ?_; rintro e w' ⟨rfl, rfl⟩)
        go_ret
        exact ⟨ret_bool (HE.out.symm.trans HR.out), rfl⟩
      | false =>
        rw [hq] at HCY
        have HQ := Lib.hid hq
        clear hq
        go_wp2_with (go_at_call 58; refine HCY.out.mono ?_; rintro e w' ⟨rfl, rfl⟩)
        go_round
        case rel => exact ⟨k + 1, by omega, by go_num, fun j z hj hz => by
          by_cases e : j = k
          · subst e; rw [HX.out] at hz; injection hz with hz; rw [← hz]; exact HQ.out
          · exact HP.out j z (by omega) hz⟩
        case measure => simp [intOf]; omega
    · have HE : Hid ((xs.any fun x => ys.contains x) = false) := by
        show (xs.any fun x => ys.contains x) = false
        rw [List.any_eq_false]
        intro x hx
        obtain ⟨q, hq, rfl⟩ := List.mem_iff_getElem.1 hx
        rw [HP.out q _ (by omega) (List.getElem?_eq_getElem hq)]; simp
      go_wp2_with fail
      go_ret
      exact ⟨ret_bool (HE.out.symm.trans HR.out), rfl⟩

set_option maxHeartbeats 2000000 in
set_option maxRecDepth 100000 in
theorem sameNet (n : Net) (u v : Value) (w : World) (hu : IsNet (Lt w.heap.size) w u n) (hv : IsNet (Lt w.heap.size) w v n) :
    Calls Tryd.prog 43 #[u, v] w fun e w' => e = .returned (.bool true) ∧ Below w.heap.size w w' := by
  obtain ⟨tu, rfl, hp, hs, hkk, hut⟩ := hu
  obtain ⟨tv, rfl, _, _, _, hvt⟩ := hv
  obtain ⟨A, c, rfl, h1, h2, hut⟩ := hut.open_
  obtain ⟨A', c', rfl, h1', h2', hvt⟩ := hvt.open_
  have e1 : (n.places != n.places) = false := by simp
  have e2 : (n.source != n.source) = false := by simp
  have e3 : (n.sink != n.sink) = false := by simp
  have e4 : ((n.trans.length : Int) != (n.trans.length : Int)) = false := by simp
  have hb := bbox (bone w (.cells #[.int .i64 n.places, .slice A n.trans.length c, .int .i64 n.source, .int .i64 n.sink] 24)) (.cells #[.int .i64 n.places, .slice A' n.trans.length c', .int .i64 n.source, .int .i64 n.sink] 24)
  have hB1 := (Blk.new w 24 #[.int .i64 n.places, .slice A n.trans.length c, .int .i64 n.source, .int .i64 n.sink]).alloc (.cells #[.int .i64 n.places, .slice A' n.trans.length c', .int .i64 n.source, .int .i64 n.sink] 24)
  have hB2 := Blk.new (w.alloc (.cells #[.int .i64 n.places, .slice A n.trans.length c, .int .i64 n.source, .int .i64 n.sink] 24)) 24 #[.int .i64 n.places, .slice A' n.trans.length c', .int .i64 n.source, .int .i64 n.sink]
  rw [World.size_alloc] at hB2
  go_enter Tryd.func43, Tryd.ntmps43
  go_upto_region 1 with fail
  generalize hw1 : (w.alloc (.cells #[.int .i64 n.places, .slice A n.trans.length c, .int .i64 n.source, .int .i64 n.sink] 24)).alloc (.cells #[.int .i64 n.places, .slice A' n.trans.length c', .int .i64 n.source, .int .i64 n.sink] 24) = w1 at *
  clear hw1
  obtain ⟨p0, p1, p2, p3⟩ := hB1.c4
  obtain ⟨q0, q1, q2, q3⟩ := hB2.c4
  go_wp2_with fail
  clear p0 p1 p2 p3 q0 q1 q2 q3 e1 e2 e3 e4
  go_loopw [5] (fun i wr => ∃ k : Nat, k ≤ n.trans.length ∧ i = .int .i64 k ∧ Below w1.heap.size w1 wr) (fun i _ => n.trans.length - (intOf i).toNat)
  case atStart => exact ⟨0, Nat.zero_le _, rfl, Below.refl _ _⟩
  case round =>
    obtain ⟨k, hk, rfl, hbr⟩ := hrel
    obtain ⟨p0, p1, p2, p3⟩ := (hB1.now hbr).c4
    obtain ⟨q0, q1, q2, q3⟩ := (hB2.now hbr).c4
    have hbw := bthen hb hbr
    by_cases hlt : k < n.trans.length
    · obtain ⟨b, o, t, iv, ov, rfl, hD, hx, hlb, hti, hto, d0, d1, d2⟩ := (hut.now hbw).at_ hlt
      obtain ⟨b', o', t', iv', ov', rfl, hD', hx', hlb', hti', hto', f0, f1, f2⟩ := (hvt.now hbw).at_ hlt
      have ht : t' = t := by rw [hx] at hx'; injection hx' with hx'; exact hx'.symm
      subst ht
      obtain ⟨Ai, ci, rfl, _, _, hti⟩ := hti.open_
      obtain ⟨Ao, co, rfl, _, _, hto⟩ := hto.open_
      obtain ⟨Ai', ci', rfl, _, _, hti'⟩ := hti'.open_
      obtain ⟨Ao', co', rfl, _, _, hto'⟩ := hto'.open_
      have i1 : (0 : Int) ≤ k := by omega
      have i2 : (k : Int) < (n.trans.length : Int) := by omega
      have HC1 : Hid (∀ q : Nat, Calls Tryd.prog 59 #[.slice Ai t'.ins.length ci, .slice Ai' t'.ins.length ci'] (wr.drewN q) fun e w' => e = .returned (.bool true) ∧ ∃ m, w' = (wr.drewN q).drewN m) :=
        fun q => (sameRow_any _ _ t'.ins t'.ins (wr.drewN q) hti hti').mono fun e w' ⟨he, hw⟩ => ⟨by rw [he, beq_self_eq_true], hw⟩
      have HC2 : Hid (∀ q : Nat, Calls Tryd.prog 59 #[.slice Ao t'.outs.length co, .slice Ao' t'.outs.length co'] (wr.drewN q) fun e w' => e = .returned (.bool true) ∧ ∃ m, w' = (wr.drewN q).drewN m) :=
        fun q => (sameRow_any _ _ t'.outs t'.outs (wr.drewN q) hto hto').mono fun e w' ⟨he, hw⟩ => ⟨by rw [he, beq_self_eq_true], hw⟩
      clear hx hx' hti hto hti' hto' hD hD'
      go_wp2
      go_quiet ((go_at_call 59; first | (with_reducible exact Calls.quiet_of (HC1.out _)) | (with_reducible exact Calls.quiet_of (HC2.out _))))
      go_wp2
      go_roundw
      case rel => exact ⟨k + 1, by omega, by go_num, below_drewN hbr _⟩
      case measure => simp [intOf]; omega
    · go_wp2_with fail
      go_ret
      exact ⟨rfl, hbw⟩
end Go.Proofs.YtphdafhidhfmnaaDoor
