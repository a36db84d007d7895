/- Texts of this seat, merged. -/
import Derived.RangeFuncBox
import Derived.RangeFuncLeaves
import Derived.RangeFuncWrites
import Derived.Shelf.Abstract
import Derived.WalkKit
import Derived.OwnWalkIn
import Derived.TacticsInMore
import Derived.LoopNIn
import Derived.LoopIn
import Derived.Sort.QuietIn
import Derived.Test.YtjglmjdfndcmmaaGreatProg
import Derived.Test.YtjglmjdfndcmmaaGreatZp01
import Derived.Test.YtjglmjdfndcmmaaGreatZp02
set_option linter.all false
set_option linter.all false
namespace Go.Proofs.YtjglmjdfndcmmaaGreat
open Go.RowKit Go.Shelf
attribute [local go_sem] Oper.semAt_some
def chunkV (b o n k : Nat) : Value := .slice (some ⟨b, o + 100 * k * 6, none⟩) (min 100 (n - 100 * k)) (min 100 (n - 100 * k))
theorem fin_at {N k : Nat} (h : k < N) : (List.finRange N)[k]? = some ⟨k, h⟩ := by
  rw [List.getElem?_eq_getElem (by simpa using h)]
  simp
theorem fin_take {N k : Nat} (h : k < N) : (List.finRange N).take (k + 1) = (List.finRange N).take k ++ [⟨k, h⟩] := by
  rw [List.take_add_one, fin_at h]; rfl
def Kq (Bs Bn : Nat) (W W' : World) : Prop := W'.heap[Bs]? = W.heap[Bs]? ∧ W'.heap[Bn]? = W.heap[Bn]?
theorem Kq.refl (Bs Bn : Nat) (W : World) : Kq Bs Bn W W := ⟨rfl, rfl⟩
theorem Kq.trans {Bs Bn : Nat} {A B C : World} (h : Kq Bs Bn A B) (k : Kq Bs Bn B C) : Kq Bs Bn A C := ⟨k.1.trans h.1, k.2.trans h.2⟩
theorem Kq.put {Bs Bn : Nat} {w : World} (h1 : Bs < w.heap.size) (h2 : Bn < w.heap.size) (W : World) (l : Nat) (o o' : Obj) (hl : w.heap.size ≤ l) (hh : W.heap[l]? = some o) (_ : o.isCells = false) (_ : o.isWalk = false) : Kq Bs Bn W (W.putObj l o') :=
  have hl2 := (Array.getElem?_eq_some_iff.1 hh).1
  ⟨(grownBy_putObj' W l o').block Bs (by omega) (fun e => by injection e; omega), (grownBy_putObj' W l o').block Bn (by omega) (fun e => by injection e; omega)⟩
set_option maxRecDepth 100000 in
set_option maxHeartbeats 2000000 in
theorem chunk1_in (A : Option Addr) (n : Nat) (hn : 1 ≤ n) (l Bs Bn b o len cap : Nat) (hcap : cap ≤ 9223372036854775807) (hlen : len ≤ 1000000) (hlc : len ≤ cap) (N : Nat) (hN : N = (len + 99) / 100)
    (J Jx : List (Fin N) → World → Prop)
    (hY : ∀ pre x W, J pre W → pre.length < N → YieldAt Fence.wide (n - 1) Tryz.prog l #[chunkV b o len x.1] W fun e W' =>
      (e = .returned (.bool true) ∧ J (pre ++ [x]) W' ∧ Kq Bs Bn W W') ∨ (e = .returned (.bool false) ∧ Jx (pre ++ [x]) W'))
    (W : World) (hA : 0 < len → A = some ⟨b, o, none⟩) (hBs : W.cell? ⟨Bs, 0, none⟩ = some (.slice A len cap)) (hBn : W.cell? ⟨Bn, 0, none⟩ = some (.int .i64 100)) (h0 : J [] W) (habi : AbidesFrom W.heap.size J) :
    CallsIn Fence.wide n Tryz.prog 78 #[.func (.yield l) #[] #[], .pointer (some ⟨Bs, 0, none⟩), .pointer (some ⟨Bn, 0, none⟩)] W fun e W' => (∃ v, e = .returned v) ∧
      ((∃ ys, ys = List.finRange N ∧ J ys W') ∨ (∃ pre, (∃ k, k ≤ N ∧ pre = (List.finRange N).take k) ∧ Jx pre W')) := by
  refine callsIn_of_wp Tryz.func78 rfl trivial ?_ rfl
  simp only [Tryz.ntmps78, List.size_toArray, List.length_cons, List.length_nil, Nat.reduceAdd, Nat.reduceSub, Array.replicate_succ, Array.replicate_zero, List.push_toArray, List.append_toArray, List.nil_append, List.cons_append]
  gi_wp2
  gi_loopw [4] (fun i wr => ∃ k : Nat, k ≤ N ∧ i = .int .i64 (100 * (k : Int)) ∧ J ((List.finRange N).take k) wr ∧ Kq Bs Bn W wr)
    (fun i _ => len + 200 - (intOf i).toNat)
  case atStart => exact ⟨0, Nat.zero_le _, rfl, h0, Kq.refl _ _ _⟩
  case round =>
    obtain ⟨k, hk, rfl, hJs, hnx⟩ := hrel
    have hc1 := (World.cell?_of_block (a := ⟨Bs, 0, none⟩) hnx.1).trans hBs
    have hc2 := (World.cell?_of_block (a := ⟨Bn, 0, none⟩) hnx.2).trans hBn
    by_cases hlt : k < N
    · have hl1 : 100 * k < len := by omega
      obtain rfl := hA (by omega)
      have z1 : (0 : Int) ≤ 100 * (k : Int) := by omega
      have z2 : 100 * (k : Int) ≤ (len : Int) := by omega
      have z3 : 100 * (k : Int) ≤ (cap : Int) := by omega
      have z4 : 100 * (k : Int) < (len : Int) := by omega
      by_cases hm : 100 * k + 100 ≤ len
      · have hme : min 100 (len - 100 * k) = (100 * (k : Int) + 100).toNat - 100 * k := by omega
        have m1 : (100 : Int) ≤ ((len - 100 * k : Nat) : Int) := by omega
        gi_wp2
        gi_quiet (fail)
        have hJd : J ((List.finRange N).take k) (wr.drewN nq) := habi _ _ _ none hJs ⟨rfl, rfl, rfl, Nat.le_refl _, fun _ _ _ => rfl⟩ (fun r e => by cases e)
        obtain ⟨fn, tmps, assign, body, hy, hR⟩ := hY _ ⟨k, hlt⟩ (wr.drewN nq) hJd (by rw [List.length_take, List.length_finRange]; omega)
        unfold chunkV at hy
        dsimp only at hy
        rw [show min 100 (len - 100 * k) = 100 by omega] at hy
        gi_wp2
        refine hR.mono ?_
        rintro e W3 (⟨rfl, hJ3, hk3⟩ | ⟨rfl, hJx3⟩)
        · have hk4 : Kq Bs Bn W W3 := hnx.trans hk3
          have hc1' := (World.cell?_of_block (a := ⟨Bs, 0, none⟩) hk4.1).trans hBs
          have hc2' := (World.cell?_of_block (a := ⟨Bn, 0, none⟩) hk4.2).trans hBn
          gi_wp2
          go_roundw
          case rel => exact ⟨k + 1, by omega, by go_num, by rw [fin_take hlt]; exact hJ3, hk4⟩
          case measure => simp [intOf]; omega
        · gi_wp2
          refine bodyPost_ret (results_none rfl _ _ _) rfl ?_
          exact ⟨⟨_, rfl⟩, .inr ⟨_, ⟨k + 1, by omega, (fin_take hlt).symm⟩, hJx3⟩⟩
      · have hme : min 100 (len - 100 * k) = (100 * (k : Int) + ((len - 100 * k : Nat) : Int)).toNat - 100 * k := by omega
        have m1 : ¬ (100 : Int) ≤ ((len - 100 * k : Nat) : Int) := by omega
        gi_wp2
        gi_quiet (fail)
        have hJd : J ((List.finRange N).take k) (wr.drewN nq) := habi _ _ _ none hJs ⟨rfl, rfl, rfl, Nat.le_refl _, fun _ _ _ => rfl⟩ (fun r e => by cases e)
        obtain ⟨fn, tmps, assign, body, hy, hR⟩ := hY _ ⟨k, hlt⟩ (wr.drewN nq) hJd (by rw [List.length_take, List.length_finRange]; omega)
        unfold chunkV at hy
        dsimp only at hy
        rw [show min 100 (len - 100 * k) = len - 100 * k by omega] at hy
        gi_wp2
        refine hR.mono ?_
        rintro e W3 (⟨rfl, hJ3, hk3⟩ | ⟨rfl, hJx3⟩)
        · have hk4 : Kq Bs Bn W W3 := hnx.trans hk3
          have hc1' := (World.cell?_of_block (a := ⟨Bs, 0, none⟩) hk4.1).trans hBs
          have hc2' := (World.cell?_of_block (a := ⟨Bn, 0, none⟩) hk4.2).trans hBn
          gi_wp2
          go_roundw
          case rel => exact ⟨k + 1, by omega, by go_num, by rw [fin_take hlt]; exact hJ3, hk4⟩
          case measure => simp [intOf]; omega
        · gi_wp2
          refine bodyPost_ret (results_none rfl _ _ _) rfl ?_
          exact ⟨⟨_, rfl⟩, .inr ⟨_, ⟨k + 1, by omega, (fin_take hlt).symm⟩, hJx3⟩⟩
    · obtain rfl : k = N := by omega
      have z4 : ¬ 100 * (k : Int) < (len : Int) := by omega
      gi_wp2
      go_end0
      rw [List.take_of_length_le (by simp)] at hJs
      exact ⟨⟨_, rfl⟩, .inl hJs⟩
theorem chunk_stops (A : Option Addr) (n : Nat) (hn : 1 ≤ n) (Bs Bn b o len cap : Nat) (hcap : cap ≤ 9223372036854775807) (hlen : len ≤ 1000000) (hlc : len ≤ cap) (N : Nat) (hN : N = (len + 99) / 100) (hA : 0 < len → A = some ⟨b, o, none⟩)
    (w : World) (h1 : Bs < w.heap.size) (h2 : Bn < w.heap.size) (hBs : w.cell? ⟨Bs, 0, none⟩ = some (.slice A len cap)) (hBn : w.cell? ⟨Bn, 0, none⟩ = some (.int .i64 100)) :
    SeqStopsK Fence.wide n Tryz.prog 78 #[.pointer (some ⟨Bs, 0, none⟩), .pointer (some ⟨Bn, 0, none⟩)] (fun x : Fin N => #[chunkV b o len x.1]) (Kq Bs Bn)
      (fun ys => ys = List.finRange N) (fun pre => ∃ k, k ≤ N ∧ pre = (List.finRange N).take k) N w := fun l J Jx W hW habi _ hY h0 =>
  chunk1_in A n hn l Bs Bn b o len cap hcap hlen hlc N hN J Jx hY W hA ((hW.cell (p := ⟨Bs, 0, none⟩) h1).trans hBs) ((hW.cell (p := ⟨Bn, 0, none⟩) h2).trans hBn) h0 habi
set_option maxHeartbeats 1000000 in
theorem chunk_any (A : Option Addr) (len cap : Nat) (w : World) :
    Calls Tryz.prog 56 #[.slice A len cap, .int .i64 100] w fun e w' => e = .returned (.func (.func 78) #[] #[.pointer (some ⟨w.heap.size, 0, none⟩), .pointer (some ⟨w.heap.size + 1, 0, none⟩)]) ∧
      w' = (w.alloc (.cells #[.slice A len cap] 23)).alloc (.cells #[.int .i64 100] 3) := by
  go_enter Tryz.func56, Tryz.ntmps56
  go_wp2_with fail
  go_ret
  exact ⟨rfl, rfl⟩
end Go.Proofs.YtjglmjdfndcmmaaGreat
