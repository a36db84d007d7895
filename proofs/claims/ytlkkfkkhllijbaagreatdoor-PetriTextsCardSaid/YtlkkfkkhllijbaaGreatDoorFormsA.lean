/- casebookref21.One, some and Same (of equal nets). -/
import Derived.Test.YtlkkfkkhllijbaaGreatDoorIncRef
import Derived.Test.YtlkkfkkhllijbaaGreatDoorSame
namespace Go.Proofs.YtlkkfkkhllijbaaGreatDoor
open Go.RowKit

def RetI (zs : List Int) (w : World) (e : Ending) (w' : World) : Prop := ∃ v, e = .returned v ∧ SlI (Lt w'.heap.size) w' v zs ∧ Below w.heap.size w w'



set_option maxHeartbeats 2000000 in
set_option maxRecDepth 100000 in
theorem sameNet (n : Net) (u v : Value) (w : World) (hu : IsNet (Lt w.heap.size) w u n) (hv : IsNet (Lt w.heap.size) w v n) :
    Calls Tryz.prog 8 #[u, v] w fun e w' => e = .returned (.bool true) ∧ Below w.heap.size w w' := by
  obtain ⟨tu, rfl, hp, hs, hkk, hut⟩ := hu
  obtain ⟨tv, rfl, _, _, _, hvt⟩ := hv
  obtain ⟨A, c, rfl, h1, h2, hut⟩ := hut.open_
  obtain ⟨A', c', rfl, h1', h2', hvt⟩ := hvt.open_
  have e1 : (n.places != n.places) = false := by simp
  have e2 : (n.source != n.source) = false := by simp
  have e3 : (n.sink != n.sink) = false := by simp
  have e4 : ((n.trans.length : Int) != (n.trans.length : Int)) = false := by simp
  have hb := bbox (bone w (.cells #[.int .i64 n.places, .slice A n.trans.length c, .int .i64 n.source, .int .i64 n.sink] 24)) (.cells #[.int .i64 n.places, .slice A' n.trans.length c', .int .i64 n.source, .int .i64 n.sink] 24)
  have hB1 := (Blk.new w 24 #[.int .i64 n.places, .slice A n.trans.length c, .int .i64 n.source, .int .i64 n.sink]).alloc (.cells #[.int .i64 n.places, .slice A' n.trans.length c', .int .i64 n.source, .int .i64 n.sink] 24)
  have hB2 := Blk.new (w.alloc (.cells #[.int .i64 n.places, .slice A n.trans.length c, .int .i64 n.source, .int .i64 n.sink] 24)) 24 #[.int .i64 n.places, .slice A' n.trans.length c', .int .i64 n.source, .int .i64 n.sink]
  rw [World.size_alloc] at hB2
  go_enter Tryz.func8, Tryz.ntmps8
  go_upto_region 1 with fail
  generalize hw1 : (w.alloc (.cells #[.int .i64 n.places, .slice A n.trans.length c, .int .i64 n.source, .int .i64 n.sink] 24)).alloc (.cells #[.int .i64 n.places, .slice A' n.trans.length c', .int .i64 n.source, .int .i64 n.sink] 24) = w1 at *
  clear hw1
  obtain ⟨p0, p1, p2, p3⟩ := hB1.c4
  obtain ⟨q0, q1, q2, q3⟩ := hB2.c4
  go_wp2_with fail
  clear p0 p1 p2 p3 q0 q1 q2 q3 e1 e2 e3 e4
  go_loopw [5] (fun i wr => ∃ k : Nat, k ≤ n.trans.length ∧ i = .int .i64 k ∧ Below w1.heap.size w1 wr) (fun i _ => n.trans.length - (intOf i).toNat)
  case atStart => exact ⟨0, Nat.zero_le _, rfl, Below.refl _ _⟩
  case round =>
    obtain ⟨k, hk, rfl, hbr⟩ := hrel
    obtain ⟨p0, p1, p2, p3⟩ := (hB1.now hbr).c4
    obtain ⟨q0, q1, q2, q3⟩ := (hB2.now hbr).c4
    have hbw := bthen hb hbr
    by_cases hlt : k < n.trans.length
    · obtain ⟨b, o, t, iv, ov, rfl, hD, hx, hlb, hti, hto, d0, d1, d2⟩ := (hut.now hbw).at_ hlt
      obtain ⟨b', o', t', iv', ov', rfl, hD', hx', hlb', hti', hto', f0, f1, f2⟩ := (hvt.now hbw).at_ hlt
      have ht : t' = t := by rw [hx] at hx'; injection hx' with hx'; exact hx'.symm
      subst ht
      obtain ⟨Ai, ci, rfl, _, _, hti⟩ := hti.open_
      obtain ⟨Ao, co, rfl, _, _, hto⟩ := hto.open_
      obtain ⟨Ai', ci', rfl, _, _, hti'⟩ := hti'.open_
      obtain ⟨Ao', co', rfl, _, _, hto'⟩ := hto'.open_
      have i1 : (0 : Int) ≤ k := by omega
      have i2 : (k : Int) < (n.trans.length : Int) := by omega
      have HC1 : Hid (∀ q : Nat, Calls Tryz.prog 27 #[.slice Ai t'.ins.length ci, .slice Ai' t'.ins.length ci'] (wr.drewN q) fun e w' => e = .returned (.bool true) ∧ ∃ m, w' = (wr.drewN q).drewN m) :=
        fun q => (sameRow_any _ _ t'.ins t'.ins (wr.drewN q) hti hti').mono fun e w' ⟨he, hw⟩ => ⟨by rw [he, beq_self_eq_true], hw⟩
      have HC2 : Hid (∀ q : Nat, Calls Tryz.prog 27 #[.slice Ao t'.outs.length co, .slice Ao' t'.outs.length co'] (wr.drewN q) fun e w' => e = .returned (.bool true) ∧ ∃ m, w' = (wr.drewN q).drewN m) :=
        fun q => (sameRow_any _ _ t'.outs t'.outs (wr.drewN q) hto hto').mono fun e w' ⟨he, hw⟩ => ⟨by rw [he, beq_self_eq_true], hw⟩
      clear hx hx' hti hto hti' hto' hD hD'
      go_wp2
      go_quiet ((go_at_call 27; first | (with_reducible exact Calls.quiet_of (HC1.out _)) | (with_reducible exact Calls.quiet_of (HC2.out _))))
      go_wp2
      go_roundw
      case rel => exact ⟨k + 1, by omega, by go_num, below_drewN hbr _⟩
      case measure => simp [intOf]; omega
    · go_wp2_with fail
      go_ret
      exact ⟨rfl, hbw⟩
end Go.Proofs.YtlkkfkkhllijbaaGreatDoor
