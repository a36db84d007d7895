/- Markings and enabled transitions: the program's functions and the reference's, of the same plain functions. -/
import Derived.Test.YtphdafhidhfmnaaDoorValid
import Derived.Test.YtphdafhidhfmnaaDoorSearch
namespace Go.Proofs.YtphdafhidhfmnaaDoor
open Go.RowKit

def tokensOk (k : Int) : Bool := decide (0 ≤ k) && decide (k ≤ 100)
def markingB (P : Int) (m : List Int) : Bool := decide ((m.length : Int) = P) && m.all tokensOk
def canB (ins : List Int) (m : List Int) : Bool := ins.all fun p => decide (1 ≤ m.getD p.toNat 0)

set_option maxHeartbeats 400000 in
theorem marking1_any (z : Int) (v : Value) (w : World) (D : Nat → Prop) (h : IsI D w v z) :
    Calls Tryd.prog 81 #[v] w fun e w' => e = .returned (.bool (!tokensOk z)) ∧ Below w.heap.size w w' := by
  obtain ⟨rfl, hf⟩ := h
  unfold tokensOk
  by_cases h1 : 0 ≤ z <;> by_cases h2 : z ≤ 100
  all_goals
    go_enter Tryd.func81, Tryd.ntmps81
    go_wp2
    go_ret
    exact ⟨by simp [h1, h2], Below.refl _ _⟩

theorem any_not_all (m : List Int) : m.any (fun z => !tokensOk z) = !m.all tokensOk := by
  induction m with
  | nil => rfl
  | cons a m ih => simp [List.any_cons, List.all_cons, ih]

set_option maxHeartbeats 400000 in
theorem marking_any (n : Net) (v mv : Value) (m : List Int) (w : World) (h : IsNet (Lt w.heap.size) w v n) (hm : SlI (Lt w.heap.size) w mv m) :
    Calls Tryd.prog 50 #[v, mv] w fun e w' => e = .returned (.bool (validB n && markingB n.places m)) ∧ Below w.heap.size w w' := by
  have eg : ∀ args w, (callFunc 81 args).run Tryd.prog w = .ok (.enter 81 args) w := enters_of Tryd.func81 (by kernel_rfl) rfl
  have HC := Lib.hid (fun W (hW : SlI (Lt W.heap.size) W mv m) => containsFuncI 81 eg #[] mv m (fun z => !tokensOk z) W hW (fun x v w1 _ _ _ h => marking1_any x v w1 _ h))
  clear eg
  have h0 := h
  obtain ⟨tv, rfl, hp, hs, hk, ht⟩ := h
  obtain ⟨A, c, rfl, h1, h2, ht⟩ := ht.open_
  obtain ⟨Am, cm, rfl, m1, m2, hm⟩ := hm.open_
  unfold markingB
  go_enter Tryd.func50, Tryd.ntmps50
  go_wp2_with fail
  refine (valid_any n _ _ (by exact h0.now (bone _ _))).mono ?_
  rintro e w1 ⟨rfl, hb1⟩
  have hB1 := (Blk.new w 24 #[.int .i64 n.places, .slice A n.trans.length c, .int .i64 n.source, .int .i64 n.sink]).now hb1
  obtain ⟨p0, p1, p2, p3⟩ := hB1.c4
  have hb01 := bthen (bone _ _) hb1
  generalize hv : validB n = q
  have HV := Lib.hid hv
  clear hv
  cases q
  · go_wp2_with fail
    go_ret
    exact ⟨ret_bool (by rw [HV.out]; rfl), hb01⟩
  · by_cases hq : (m.length : Int) = n.places
    · have hq' : ((m.length : Int) == n.places) = true := by simpa using hq
      have HQ := Lib.hid hq
      clear hq
      go_wp2_with fail
      refine (HC.out _ (hm.now hb01)).mono ?_
      rintro e w2 ⟨rfl, hb2⟩
      have HE : Hid ((true && (decide ((m.length : Int) = n.places) && m.all tokensOk)) = !(m.any fun z => !tokensOk z)) := by
        show (true && (decide ((m.length : Int) = n.places) && m.all tokensOk)) = _; rw [any_not_all]; simp [HQ.out]
      generalize (m.any fun z => !tokensOk z) = r at HE ⊢
      go_wp2_with fail
      go_ret
      exact ⟨ret_bool (by rw [HV.out]; exact HE.out.symm), bthen hb01 hb2⟩
    · have hq' : ((m.length : Int) == n.places) = false := by simpa using hq
      have HE : Hid ((true && (decide ((m.length : Int) = n.places) && m.all tokensOk)) = false) := by
        show (true && (decide ((m.length : Int) = n.places) && m.all tokensOk)) = _; simp [hq]
      clear hq
      go_wp2_with fail
      go_ret
      exact ⟨ret_bool (by rw [HV.out]; exact HE.out.symm), hb01⟩

set_option maxHeartbeats 400000 in
theorem marking_ref (n : Net) (v mv : Value) (m : List Int) (w : World) (h : IsNet (Lt w.heap.size) w v n) (hm : SlI (Lt w.heap.size) w mv m) :
    Calls Tryd.prog 20 #[v, mv] w fun e w' => e = .returned (.bool (markingB n.places m)) ∧ Below w.heap.size w w' := by
  obtain ⟨tv, rfl, hp, hs, hk, ht⟩ := h
  obtain ⟨A, c, rfl, h1, h2, ht⟩ := ht.open_
  obtain ⟨Am, cm, rfl, m1, m2, hm⟩ := hm.open_
  by_cases hq : (m.length : Int) = n.places
  · have hq' : ((m.length : Int) != n.places) = false := by simpa using hq
    have HQ : Hid (markingB n.places m = m.all tokensOk) := by show markingB n.places m = _; unfold markingB; simp [hq]
    clear hq
    go_enter Tryd.func20, Tryd.ntmps20
    go_wp2_with fail
    have hb := bone w (Obj.cells #[Value.int IntKind.i64 n.places, Value.slice A n.trans.length c, Value.int IntKind.i64 n.source, Value.int IntKind.i64 n.sink] 24)
    have hm' := hm.now hb
    go_loop [5] (fun i => ∃ k : Nat, k ≤ m.length ∧ i = .int .i64 k ∧ ∀ j z, j < k → m[j]? = some z → tokensOk z = true) (fun i => m.length - (intOf i).toNat)
    case atStart => exact ⟨0, Nat.zero_le _, rfl, fun j _ h => absurd h (by omega)⟩
    case round =>
      obtain ⟨k, hk', rfl, hp'⟩ := hrel
      have HP := Lib.hid hp'
      clear hp'
      by_cases hlt : k < m.length
      · obtain ⟨b, o, x, rfl, hD, hx, hf, hcell⟩ := hm'.at_ hlt
        have HX := Lib.hid hx
        clear hx
        by_cases h1 : 0 ≤ x ∧ x ≤ 100
        · obtain ⟨h1, h2⟩ := h1
          go_wp2
          go_round
          case rel => exact ⟨k + 1, by omega, by go_num, fun j z hj hz => by
            by_cases e : j = k
            · subst e; rw [HX.out] at hz; injection hz with hz; subst hz; unfold tokensOk; simp [h1, h2]
            · exact HP.out j z (by omega) hz⟩
          case measure => simp [intOf]; omega
        · have HE : Hid (markingB n.places m = false) := by
            show markingB n.places m = false
            rw [HQ.out, List.all_eq_false]; exact ⟨x, List.mem_of_getElem? HX.out, by unfold tokensOk; simpa using h1⟩
          have h1' : ¬ (0 ≤ x ∧ x ≤ 100) := h1
          clear h1
          by_cases h2 : 0 ≤ x <;> by_cases h3 : x ≤ 100
          all_goals first
            | (exfalso; exact h1' ⟨h2, h3⟩)
            | (clear h1'
               go_wp2
               go_ret
               exact ⟨ret_bool HE.out.symm, hb⟩)
      · have HE : Hid (markingB n.places m = true) := by
          show markingB n.places m = true
          rw [HQ.out, List.all_eq_true]
          intro x hx
          obtain ⟨q, hq, rfl⟩ := List.mem_iff_getElem.1 hx
          exact HP.out q _ (by omega) (List.getElem?_eq_getElem hq)
        go_wp2
        go_ret
        exact ⟨ret_bool HE.out.symm, hb⟩
  · have hq' : ((m.length : Int) != n.places) = true := by simpa using hq
    have HE : Hid (markingB n.places m = false) := by show markingB n.places m = _; unfold markingB; simp [hq]
    clear hq
    go_enter Tryd.func20, Tryd.ntmps20
    go_wp2_with fail
    go_ret
    exact ⟨ret_bool HE.out.symm, bone _ _⟩

/-- All numbers of ins are places of m, and m has no number below 0. -/
def Inside (ins m : List Int) : Prop := ∀ p, p ∈ ins → 0 ≤ p ∧ p.toNat < m.length
def NonNeg (m : List Int) : Prop := ∀ z, z ∈ m → 0 ≤ z

set_option maxHeartbeats 400000 in
theorem enabled1_any (p : Int) (v mv : Value) (B : Nat) (m : List Int) (w : World) (h : v = .int .i64 p) (hp : 0 ≤ p ∧ p.toNat < m.length) (hn : NonNeg m) (hc : w.cell? ⟨B, 0, none⟩ = some mv) (hm : SlI (Lt w.heap.size) w mv m) :
    Calls Tryd.prog 86 #[v, .pointer (some ⟨B, 0, none⟩)] w fun e w' => e = .returned (.bool (!decide (1 ≤ m.getD p.toNat 0))) ∧ Below w.heap.size w w' := by
  subst h
  obtain ⟨k, rfl⟩ := Int.eq_ofNat_of_zero_le hp.1
  obtain ⟨Am, cm, rfl, m1, m2, hm⟩ := hm.open_
  rw [Int.toNat_natCast] at *
  have hk : k < m.length := hp.2
  obtain ⟨b, o, x, rfl, hD, hx, hf, hcell⟩ := hm.at_ hk
  have hg := getD_of hx
  have hx0 := hn x (List.mem_of_getElem? hx)
  rw [hg]
  clear hx hg hp
  by_cases h1 : x = 0
  · subst h1
    go_enter Tryd.func86, Tryd.ntmps86
    go_wp2
    go_ret
    exact ⟨rfl, Below.refl _ _⟩
  · have h2 : (x == 0) = false := by simpa using h1
    have h3 : 1 ≤ x := by omega
    clear h1
    go_enter Tryd.func86, Tryd.ntmps86
    go_wp2
    go_ret
    exact ⟨by simp [h3], Below.refl _ _⟩

theorem any_not_can (ins m : List Int) : ins.any (fun p => !decide (1 ≤ m.getD p.toNat 0)) = !canB ins m := by
  unfold canB
  induction ins with
  | nil => rfl
  | cons a l ih => simp only [List.any_cons, List.all_cons, ih, Bool.not_and]

set_option maxHeartbeats 400000 in
theorem enabled_any (t : Tr) (v mv : Value) (m : List Int) (w : World) (h : IsTr (Lt w.heap.size) w v t) (hm : SlI (Lt w.heap.size) w mv m) (hi : Inside t.ins m) (hn : NonNeg m) :
    Calls Tryd.prog 56 #[v, mv] w fun e w' => e = .returned (.bool (canB t.ins m)) ∧ Below w.heap.size w w' := by
  have eg : ∀ args w, (callFunc 86 args).run Tryd.prog w = .ok (.enter 86 args) w := enters_of Tryd.func86 (by kernel_rfl) rfl
  have HC := Lib.hid (fun (iv : Value) (B : Nat) (W : World) (hW : SlI (Lt W.heap.size) W iv t.ins) (hc : W.cell? ⟨B, 0, none⟩ = some mv) (hB : B < W.heap.size) (hm : SlI (Lt W.heap.size) W mv m) =>
    containsFuncI 86 eg #[.pointer (some ⟨B, 0, none⟩)] iv t.ins (fun p => !decide (1 ≤ m.getD p.toNat 0)) W hW
      (fun x v w1 hx hb _ h => enabled1_any x v mv B m w1 h.1 (hi x hx) hn ((hb.cell (p := ⟨B, 0, none⟩) hB).trans hc) (hm.now hb)))
  clear eg
  obtain ⟨iv, ov, rfl, hl, hti, hto⟩ := h
  obtain ⟨Ai, ci, rfl, i1, i2, hti⟩ := hti.open_
  obtain ⟨Ao, co, rfl, o1, o2, hto⟩ := hto.open_
  obtain ⟨Am, cm, rfl, m1, m2, hm⟩ := hm.open_
  go_enter Tryd.func56, Tryd.ntmps56
  go_wp2_with fail
  refine (HC.out _ _ _ (by exact hti.now (bbox (bone _ _) _)) (by simp) (by simp) (by exact hm.now (bbox (bone _ _) _))).mono ?_
  rintro e w2 ⟨rfl, hb2⟩
  rw [any_not_can]
  generalize hr : canB t.ins m = r
  have HR := Lib.hid hr
  clear hr
  go_wp2_with fail
  go_ret
  exact ⟨ret_bool HR.out.symm, bthen (bbox (bone _ _) _) hb2⟩

set_option maxHeartbeats 400000 in
theorem can_ref (n : Net) (v mv : Value) (m : List Int) (k : Nat) (t : Tr) (w : World) (h : IsNet (Lt w.heap.size) w v n) (hm : SlI (Lt w.heap.size) w mv m) (hk : n.trans[k]? = some t) (hi : Inside t.ins m) :
    Calls Tryd.prog 57 #[v, mv, .int .i64 (k : Int)] w fun e w' => e = .returned (.bool (canB t.ins m)) ∧ Below w.heap.size w w' := by
  obtain ⟨tv, rfl, hp, hs, hkk, ht⟩ := h
  obtain ⟨A, c, rfl, h1, h2, ht⟩ := ht.open_
  obtain ⟨Am, cm, rfl, m1, m2, hm⟩ := hm.open_
  have hkl : k < n.trans.length := by
    rcases Nat.lt_or_ge k n.trans.length with h | h
    · exact h
    · rw [List.getElem?_eq_none h] at hk; cases hk
  have hb := bone w (Obj.cells #[Value.int IntKind.i64 n.places, Value.slice A n.trans.length c, Value.int IntKind.i64 n.source, Value.int IntKind.i64 n.sink] 24)
  obtain ⟨b, o, t', iv, ov, rfl, hD, hx, hl, hti, hto, c0, c1, c2⟩ := (ht.now hb).at_ hkl
  rw [hk] at hx
  injection hx with hx
  subst hx
  obtain ⟨Ai, ci, rfl, i1, i2, hti⟩ := hti.open_
  have hm' := hm.now hb
  clear hk
  go_enter Tryd.func57, Tryd.ntmps57
  go_wp2_with fail
  go_loop [7] (fun i => ∃ j : Nat, j ≤ t.ins.length ∧ i = .int .i64 j ∧ ∀ q p, q < j → t.ins[q]? = some p → 1 ≤ m.getD p.toNat 0) (fun i => t.ins.length - (intOf i).toNat)
  case atStart => exact ⟨0, Nat.zero_le _, rfl, fun j _ h => absurd h (by omega)⟩
  case round =>
    obtain ⟨j, hj, rfl, hp'⟩ := hrel
    have HP := Lib.hid hp'
    clear hp'
    by_cases hlt : j < t.ins.length
    · obtain ⟨b1, o1, p, rfl, hD1, hx1, hf1, d1⟩ := hti.at_ hlt
      obtain ⟨hp0, hp1⟩ := hi p (List.mem_of_getElem? hx1)
      obtain ⟨y, rfl⟩ := Int.eq_ofNat_of_zero_le hp0
      rw [Int.toNat_natCast] at hp1
      obtain ⟨b2, o2, x, rfl, hD2, hx2, hf2, d2⟩ := hm'.at_ hp1
      have HX1 := Lib.hid hx1
      have HX2 := Lib.hid (getD_of hx2)
      clear hx1 hx2
      by_cases h3 : x < 1
      · have HE : Hid (canB t.ins m = false) := by
          show canB t.ins m = false
          unfold canB; rw [List.all_eq_false]
          exact ⟨_, List.mem_of_getElem? HX1.out, by rw [Int.toNat_natCast, HX2.out]; simpa using h3⟩
        go_wp2
        go_ret
        exact ⟨ret_bool HE.out.symm, hb⟩
      · go_wp2
        go_round
        case rel => exact ⟨j + 1, by omega, by go_num, fun q p hq hp => by
          by_cases e : q = j
          · subst e; rw [HX1.out] at hp; injection hp with hp; subst hp; rw [Int.toNat_natCast, HX2.out]; omega
          · exact HP.out q p (by omega) hp⟩
        case measure => simp [intOf]; omega
    · have HE : Hid (canB t.ins m = true) := by
        show canB t.ins m = true
        unfold canB; rw [List.all_eq_true]
        intro x hx
        obtain ⟨q, hq, rfl⟩ := List.mem_iff_getElem.1 hx
        simpa using HP.out q _ (by omega) (List.getElem?_eq_getElem hq)
      go_wp2
      go_ret
      exact ⟨ret_bool HE.out.symm, hb⟩
end Go.Proofs.YtphdafhidhfmnaaDoor
