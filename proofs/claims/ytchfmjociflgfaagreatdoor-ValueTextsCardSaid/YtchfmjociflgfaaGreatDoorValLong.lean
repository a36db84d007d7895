/- casebooklaw09.long. -/
import Derived.Test.YtchfmjociflgfaaGreatDoorValSame
namespace Go.Proofs.YtchfmjociflgfaaGreatDoor
open Go.RowKit

set_option maxHeartbeats 400000 in
theorem long1_any (s : ByteArray) (w : World) : Calls Tryz.prog 40 #[.string s] w fun e w' => e = .returned (.bool (decide (300 < (s.size : Int)))) ∧ Below w.heap.size w w' := by
  go_enter Tryz.func40, Tryz.ntmps40
  go_wp2_with fail
  go_ret
  exact ⟨rfl, Below.refl _ _⟩
set_option maxHeartbeats 400000 in
theorem long2_any (v : Val) (w : World) : Calls Tryz.prog 42 #[valV v] w fun e w' => e = .returned (.bool (decide (300 < (v.s.size : Int)))) ∧ Below w.heap.size w w' := by
  have hb := bone w (.cells #[.int .i64 v.kind, .int .i64 v.n, .string v.s] 23)
  unfold valV
  go_enter Tryz.func42, Tryz.ntmps42
  go_wp2_with fail
  go_ret
  exact ⟨rfl, hb⟩
/-- What long says: where it says no, the lists are short. -/
def RetLong (l : List Var) (vs : List Val) (w : World) (e : Ending) (w' : World) : Prop := ∃ q : Bool, e = .returned (.bool q) ∧ (q = false → l.length ≤ 12 ∧ vs.length ≤ 12) ∧ Below w.heap.size w w'

set_option maxHeartbeats 2000000 in
theorem long_any (l : List Var) (vs : List Val) (u v : Value) (w : World) (h : SlX (Lt w.heap.size) w u l) (hv : SlV (Lt w.heap.size) w v vs) :
    Calls Tryz.prog 10 #[u, v] w (RetLong l vs w) := by
  have eg1 : ∀ args w, (callFunc 40 args).run Tryz.prog w = .ok (.enter 40 args) w := enters_of Tryz.func40 (by kernel_rfl) rfl
  have eg2 : ∀ args w, (callFunc 42 args).run Tryz.prog w = .ok (.enter 42 args) w := enters_of Tryz.func42 (by kernel_rfl) rfl
  obtain ⟨A, c, rfl, h1, h2, ht⟩ := h.open_
  obtain ⟨Av, cv, rfl, h1v, h2v, htv⟩ := hv.open_
  clear h hv
  go_enter Tryz.func10, Tryz.ntmps10
  by_cases a1 : 12 < l.length
  · go_wp2_with fail
    go_ret
    exact ⟨true, rfl, (fun h => by cases h), Below.refl _ _⟩
  by_cases a2 : 12 < vs.length
  · go_wp2_with fail
    go_ret
    exact ⟨true, rfl, (fun h => by cases h), Below.refl _ _⟩
  go_wp2_with fail
  go_loopw [17] (fun i wr => ∃ j : Nat, j ≤ l.length ∧ i = .int .i64 j ∧ Below w.heap.size w wr) (fun i _ => l.length - (intOf i).toNat)
  case atStart => exact ⟨0, Nat.zero_le _, rfl, Below.refl _ _⟩
  case round =>
    obtain ⟨j, hj, rfl, hb⟩ := hrel
    by_cases hlt : j < l.length
    · obtain ⟨b, o, x, iv, rfl, hD, hx, hvar, hiv, c0, c1, c2, c3, c4⟩ := (ht.now hb).at_ hlt
      obtain ⟨A2, k2, rfl, g1, g2, hiv⟩ := hiv.open_
      have hnm : x.name.size ≤ maxLen := by obtain ⟨_, _, hn, _⟩ := hvar; exact hn
      unfold maxLen at hnm
      have hb1 := bone wr (.cells #[.string x.name, .int .i64 x.kind, .int .i64 x.low, .int .i64 x.high, .slice A2 x.items.length k2] 29)
      have hbw1 := bthen hb hb1
      have hiv1 := hiv.now hb1
      clear hx hvar
      by_cases n1 : 300 < x.name.size
      · go_wp2_with fail
        go_ret
        exact ⟨true, rfl, (fun h => by cases h), hbw1⟩
      by_cases n2 : 40 < x.items.length ∧ x.items.length ≤ 1000
      · obtain ⟨n2, n3⟩ := n2
        go_wp2_with fail
        go_ret
        exact ⟨true, rfl, (fun h => by cases h), hbw1⟩
      by_cases n4 : 1100 < x.items.length
      · have n3 : ¬ x.items.length ≤ 1000 := by omega
        have n5 : 40 < x.items.length := by omega
        clear n2
        go_wp2_with fail
        go_ret
        exact ⟨true, rfl, (fun h => by cases h), hbw1⟩
      have hcf := containsFuncS _ eg1 _ x.items (fun s => decide (300 < (s.size : Int))) _ hiv1 (fun s w1 _ _ _ => long1_any s w1)
      generalize (x.items.any fun s => decide (300 < (s.size : Int))) = q at *
      have HC := Lib.hid hcf
      clear hcf
      by_cases n5 : 40 < x.items.length
      · have n3 : ¬ x.items.length ≤ 1000 := by omega
        clear n2
        cases q
        · go_wp2_with (go_at_call 39; refine HC.out.mono ?_; rintro e w3 ⟨rfl, hb3⟩)
          go_roundw
          case rel => exact ⟨j + 1, by omega, by go_num, bthen hbw1 hb3⟩
          case measure => simp [intOf]; omega
        · go_wp2_with (go_at_call 39; refine HC.out.mono ?_; rintro e w3 ⟨rfl, hb3⟩)
          go_ret
          exact ⟨true, rfl, (fun h => by cases h), bthen hbw1 hb3⟩
      · clear n2
        cases q
        · go_wp2_with (go_at_call 39; refine HC.out.mono ?_; rintro e w3 ⟨rfl, hb3⟩)
          go_roundw
          case rel => exact ⟨j + 1, by omega, by go_num, bthen hbw1 hb3⟩
          case measure => simp [intOf]; omega
        · go_wp2_with (go_at_call 39; refine HC.out.mono ?_; rintro e w3 ⟨rfl, hb3⟩)
          go_ret
          exact ⟨true, rfl, (fun h => by cases h), bthen hbw1 hb3⟩
    · go_wp2_with fail
      refine (containsFuncV _ eg2 _ vs (fun v => decide (300 < (v.s.size : Int))) _ (htv.now hb) (fun x w1 _ _ _ => long2_any x w1)).mono ?_
      rintro e w3 ⟨rfl, hb3⟩
      go_wp2_with fail
      go_ret
      exact ⟨_, rfl, fun _ => ⟨by omega, by omega⟩, bthen hb hb3⟩
end Go.Proofs.YtchfmjociflgfaaGreatDoor
