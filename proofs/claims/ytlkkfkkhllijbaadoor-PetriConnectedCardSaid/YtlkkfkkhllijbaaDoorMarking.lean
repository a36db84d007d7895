/- Markings and enabled transitions: the program's functions and the reference's, of the same plain functions. -/
import Derived.Test.YtlkkfkkhllijbaaDoorValid
import Derived.Test.YtlkkfkkhllijbaaDoorSearch
namespace Go.Proofs.YtlkkfkkhllijbaaDoor
open Go.RowKit

def tokensOk (k : Int) : Bool := decide (0 ≤ k) && decide (k ≤ 100)
def markingB (P : Int) (m : List Int) : Bool := decide ((m.length : Int) = P) && m.all tokensOk
def canB (ins : List Int) (m : List Int) : Bool := ins.all fun p => decide (1 ≤ m.getD p.toNat 0)

set_option maxHeartbeats 400000 in
theorem marking1_any (z : Int) (v : Value) (w : World) (D : Nat → Prop) (h : IsI D w v z) :
    Calls Tryd.prog 48 #[v] w fun e w' => e = .returned (.bool (!tokensOk z)) ∧ Below w.heap.size w w' := by
  obtain ⟨rfl, hf⟩ := h
  unfold tokensOk
  by_cases h1 : 0 ≤ z <;> by_cases h2 : z ≤ 100
  all_goals
    go_enter Tryd.func48, Tryd.ntmps48
    go_wp2
    go_ret
    exact ⟨by simp [h1, h2], Below.refl _ _⟩

theorem any_not_all (m : List Int) : m.any (fun z => !tokensOk z) = !m.all tokensOk := by
  induction m with
  | nil => rfl
  | cons a m ih => simp [List.any_cons, List.all_cons, ih]

set_option maxHeartbeats 400000 in
theorem marking_any (n : Net) (v mv : Value) (m : List Int) (w : World) (h : IsNet (Lt w.heap.size) w v n) (hm : SlI (Lt w.heap.size) w mv m) :
    Calls Tryd.prog 35 #[v, mv] w fun e w' => e = .returned (.bool (validB n && markingB n.places m)) ∧ Below w.heap.size w w' := by
  have eg : ∀ args w, (callFunc 48 args).run Tryd.prog w = .ok (.enter 48 args) w := enters_of Tryd.func48 (by kernel_rfl) rfl
  have HC := Lib.hid (fun W (hW : SlI (Lt W.heap.size) W mv m) => containsFuncI 48 eg #[] mv m (fun z => !tokensOk z) W hW (fun x v w1 _ _ _ h => marking1_any x v w1 _ h))
  clear eg
  have h0 := h
  obtain ⟨tv, rfl, hp, hs, hk, ht⟩ := h
  obtain ⟨A, c, rfl, h1, h2, ht⟩ := ht.open_
  obtain ⟨Am, cm, rfl, m1, m2, hm⟩ := hm.open_
  unfold markingB
  go_enter Tryd.func35, Tryd.ntmps35
  go_wp2_with fail
  refine (valid_any n _ _ (by exact h0.now (bone _ _))).mono ?_
  rintro e w1 ⟨rfl, hb1⟩
  have hB1 := (Blk.new w 24 #[.int .i64 n.places, .slice A n.trans.length c, .int .i64 n.source, .int .i64 n.sink]).now hb1
  obtain ⟨p0, p1, p2, p3⟩ := hB1.c4
  have hb01 := bthen (bone _ _) hb1
  generalize hv : validB n = q
  have HV := Lib.hid hv
  clear hv
  cases q
  · go_wp2_with fail
    go_ret
    exact ⟨ret_bool (by rw [HV.out]; rfl), hb01⟩
  · by_cases hq : (m.length : Int) = n.places
    · have hq' : ((m.length : Int) == n.places) = true := by simpa using hq
      have HQ := Lib.hid hq
      clear hq
      go_wp2_with fail
      refine (HC.out _ (hm.now hb01)).mono ?_
      rintro e w2 ⟨rfl, hb2⟩
      have HE : Hid ((true && (decide ((m.length : Int) = n.places) && m.all tokensOk)) = !(m.any fun z => !tokensOk z)) := by
        show (true && (decide ((m.length : Int) = n.places) && m.all tokensOk)) = _; rw [any_not_all]; simp [HQ.out]
      generalize (m.any fun z => !tokensOk z) = r at HE ⊢
      go_wp2_with fail
      go_ret
      exact ⟨ret_bool (by rw [HV.out]; exact HE.out.symm), bthen hb01 hb2⟩
    · have hq' : ((m.length : Int) == n.places) = false := by simpa using hq
      have HE : Hid ((true && (decide ((m.length : Int) = n.places) && m.all tokensOk)) = false) := by
        show (true && (decide ((m.length : Int) = n.places) && m.all tokensOk)) = _; simp [hq]
      clear hq
      go_wp2_with fail
      go_ret
      exact ⟨ret_bool (by rw [HV.out]; exact HE.out.symm), hb01⟩


/-- All numbers of ins are places of m, and m has no number below 0. -/
def Inside (ins m : List Int) : Prop := ∀ p, p ∈ ins → 0 ≤ p ∧ p.toNat < m.length
def NonNeg (m : List Int) : Prop := ∀ z, z ∈ m → 0 ≤ z

set_option maxHeartbeats 400000 in
theorem enabled1_any (p : Int) (v mv : Value) (B : Nat) (m : List Int) (w : World) (h : v = .int .i64 p) (hp : 0 ≤ p ∧ p.toNat < m.length) (hn : NonNeg m) (hc : w.cell? ⟨B, 0, none⟩ = some mv) (hm : SlI (Lt w.heap.size) w mv m) :
    Calls Tryd.prog 56 #[v, .pointer (some ⟨B, 0, none⟩)] w fun e w' => e = .returned (.bool (!decide (1 ≤ m.getD p.toNat 0))) ∧ Below w.heap.size w w' := by
  subst h
  obtain ⟨k, rfl⟩ := Int.eq_ofNat_of_zero_le hp.1
  obtain ⟨Am, cm, rfl, m1, m2, hm⟩ := hm.open_
  rw [Int.toNat_natCast] at *
  have hk : k < m.length := hp.2
  obtain ⟨b, o, x, rfl, hD, hx, hf, hcell⟩ := hm.at_ hk
  have hg := getD_of hx
  have hx0 := hn x (List.mem_of_getElem? hx)
  rw [hg]
  clear hx hg hp
  by_cases h1 : x = 0
  · subst h1
    go_enter Tryd.func56, Tryd.ntmps56
    go_wp2
    go_ret
    exact ⟨rfl, Below.refl _ _⟩
  · have h2 : (x == 0) = false := by simpa using h1
    have h3 : 1 ≤ x := by omega
    clear h1
    go_enter Tryd.func56, Tryd.ntmps56
    go_wp2
    go_ret
    exact ⟨by simp [h3], Below.refl _ _⟩

theorem any_not_can (ins m : List Int) : ins.any (fun p => !decide (1 ≤ m.getD p.toNat 0)) = !canB ins m := by
  unfold canB
  induction ins with
  | nil => rfl
  | cons a l ih => simp only [List.any_cons, List.all_cons, ih, Bool.not_and]

set_option maxHeartbeats 400000 in
theorem enabled_any (t : Tr) (v mv : Value) (m : List Int) (w : World) (h : IsTr (Lt w.heap.size) w v t) (hm : SlI (Lt w.heap.size) w mv m) (hi : Inside t.ins m) (hn : NonNeg m) :
    Calls Tryd.prog 49 #[v, mv] w fun e w' => e = .returned (.bool (canB t.ins m)) ∧ Below w.heap.size w w' := by
  have eg : ∀ args w, (callFunc 56 args).run Tryd.prog w = .ok (.enter 56 args) w := enters_of Tryd.func56 (by kernel_rfl) rfl
  have HC := Lib.hid (fun (iv : Value) (B : Nat) (W : World) (hW : SlI (Lt W.heap.size) W iv t.ins) (hc : W.cell? ⟨B, 0, none⟩ = some mv) (hB : B < W.heap.size) (hm : SlI (Lt W.heap.size) W mv m) =>
    containsFuncI 56 eg #[.pointer (some ⟨B, 0, none⟩)] iv t.ins (fun p => !decide (1 ≤ m.getD p.toNat 0)) W hW
      (fun x v w1 hx hb _ h => enabled1_any x v mv B m w1 h.1 (hi x hx) hn ((hb.cell (p := ⟨B, 0, none⟩) hB).trans hc) (hm.now hb)))
  clear eg
  obtain ⟨iv, ov, rfl, hl, hti, hto⟩ := h
  obtain ⟨Ai, ci, rfl, i1, i2, hti⟩ := hti.open_
  obtain ⟨Ao, co, rfl, o1, o2, hto⟩ := hto.open_
  obtain ⟨Am, cm, rfl, m1, m2, hm⟩ := hm.open_
  go_enter Tryd.func49, Tryd.ntmps49
  go_wp2_with fail
  refine (HC.out _ _ _ (by exact hti.now (bbox (bone _ _) _)) (by simp) (by simp) (by exact hm.now (bbox (bone _ _) _))).mono ?_
  rintro e w2 ⟨rfl, hb2⟩
  rw [any_not_can]
  generalize hr : canB t.ins m = r
  have HR := Lib.hid hr
  clear hr
  go_wp2_with fail
  go_ret
  exact ⟨ret_bool HR.out.symm, bthen (bbox (bone _ _) _) hb2⟩

end Go.Proofs.YtlkkfkkhllijbaaDoor
