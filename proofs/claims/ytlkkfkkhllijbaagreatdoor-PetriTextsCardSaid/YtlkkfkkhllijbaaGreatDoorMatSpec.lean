/- Matrices as lists of rows; the incidence matrix. Plain; no program in sight. -/
import Derived.Test.YtlkkfkkhllijbaaGreatDoorFireSpec
namespace Go.Proofs.YtlkkfkkhllijbaaGreatDoor

def entryB (z : Int) : Bool := decide (-1048576 ≤ z) && decide (z ≤ 1048576)
def entriesB (r : List Int) : Bool := r.all entryB
def firstLen (m : List (List Int)) : Nat := match m with | r :: _ => r.length | [] => 0
def rowOk (c : Nat) (r : List Int) : Bool := decide (r.length = c) && entriesB r
def matB (m : List (List Int)) : Bool := decide (1 ≤ m.length) && decide (m.length ≤ 20) && decide (1 ≤ firstLen m) && decide (firstLen m ≤ 20) && m.all (rowOk (firstLen m))

def hasI (l : List Int) (p : Int) : Int := if l.contains p then 1 else 0
def incAt (p : Int) (t : Tr) : Int := hasI t.outs p - hasI t.ins p
def incRow (n : Net) (p : Nat) : List Int := n.trans.map (incAt p)
def incTo (n : Net) (k : Nat) : List (List Int) := (List.range k).map (incRow n)
def incB (n : Net) : List (List Int) := incTo n n.places.toNat
def incE (n : Net) : List (List Int) × Int := if validB n = false then ([], 1) else if n.trans.length = 0 ∨ 20 < n.trans.length ∨ 20 < n.places then ([], 5) else (incB n, 0)

theorem hasI_b (l : List Int) (p : Int) : 0 ≤ hasI l p ∧ hasI l p ≤ 1 := by unfold hasI; split <;> omega
theorem incAt_b (p : Int) (t : Tr) : -1 ≤ incAt p t ∧ incAt p t ≤ 1 := by
  have := hasI_b t.outs p
  have := hasI_b t.ins p
  unfold incAt; omega
theorem incRow_len (n : Net) (p : Nat) : (incRow n p).length = n.trans.length := by unfold incRow; simp
theorem incTo_len (n : Net) (k : Nat) : (incTo n k).length = k := by unfold incTo; simp
theorem incTo_succ (n : Net) (k : Nat) : incTo n (k + 1) = incTo n k ++ [incRow n k] := by unfold incTo; rw [List.range_succ, List.map_append]; rfl
theorem incTo_get (n : Net) {k i : Nat} (h : i < k) : (incTo n k)[i]? = some (incRow n i) := by unfold incTo; simp [h]
theorem incRow_fit (n : Net) (p : Nat) : ∀ z ∈ incRow n p, -1 ≤ z ∧ z ≤ 1 := by
  intro z hz
  unfold incRow at hz
  obtain ⟨t, _, rfl⟩ := List.mem_map.1 hz
  exact incAt_b p t
theorem inc_mat {n : Net} (h1 : 1 ≤ n.places) (h2 : n.places ≤ 20) (h3 : 1 ≤ n.trans.length) (h4 : n.trans.length ≤ 20) : matB (incB n) = true := by
  have hf : firstLen (incB n) = n.trans.length := by
    unfold incB
    obtain ⟨k, hk⟩ : ∃ k, n.places.toNat = k + 1 := ⟨n.places.toNat - 1, by omega⟩
    rw [hk]
    have : incTo n (k + 1) = incRow n 0 :: (List.range k).map (fun i => incRow n (i + 1)) := by
      unfold incTo; rw [List.range_succ_eq_map]; simp
    rw [this]
    exact incRow_len n 0
  unfold matB
  rw [hf]
  have hl : (incB n).length = n.places.toNat := incTo_len _ _
  rw [hl]
  simp only [Bool.and_eq_true, decide_eq_true_eq, List.all_eq_true]
  refine ⟨⟨⟨⟨by omega, by omega⟩, h3⟩, h4⟩, fun r hr => ?_⟩
  unfold incB incTo at hr
  obtain ⟨p, _, rfl⟩ := List.mem_map.1 hr
  unfold rowOk entriesB
  simp only [Bool.and_eq_true, decide_eq_true_eq, List.all_eq_true]
  refine ⟨incRow_len n p, fun z hz => ?_⟩
  have := incRow_fit n p z hz
  unfold entryB
  simp only [Bool.and_eq_true, decide_eq_true_eq]
  omega
theorem incE_inv {n : Net} (h : validB n = false) : incE n = ([], 1) := by unfold incE; rw [h]; rfl
theorem incE_full {n : Net} (h : validB n = true) (h1 : n.trans.length = 0 ∨ 20 < n.trans.length ∨ 20 < n.places) : incE n = ([], 5) := by
  unfold incE; rw [h, if_neg (by simp), if_pos h1]
theorem incE_ok {n : Net} (h : validB n = true) (h1 : ¬ (n.trans.length = 0 ∨ 20 < n.trans.length ∨ 20 < n.places)) : incE n = (incB n, 0) := by
  unfold incE; rw [h, if_neg (by simp), if_neg h1]
end Go.Proofs.YtlkkfkkhllijbaaGreatDoor
