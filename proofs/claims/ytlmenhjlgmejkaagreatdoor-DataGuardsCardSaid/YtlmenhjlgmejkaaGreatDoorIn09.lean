/- Texts of this seat, merged. -/
import Derived.Test.YtlmenhjlgmejkaaGreatDoorProg
import Derived.Outline
import Derived.Shelf.Abstract
import Derived.Lib.Slices
import Derived.Test.YtlmenhjlgmejkaaGreatDoorIn01
import Derived.Test.YtlmenhjlgmejkaaGreatDoorIn02
import Derived.Test.YtlmenhjlgmejkaaGreatDoorIn04
import Derived.Test.YtlmenhjlgmejkaaGreatDoorIn06
import Derived.Test.YtlmenhjlgmejkaaGreatDoorIn07
import Derived.Test.YtlmenhjlgmejkaaGreatDoorIn08
set_option linter.unusedSimpArgs false
set_option linter.unusedVariables false
namespace Go.Proofs.YtlmenhjlgmejkaaGreatDoor
open Go.RowKit
def Asks1 {α : Type} (k : FuncId) (cap : Array Value) (B : Nat) (w : World) (xs : List α) (IsA : (Nat → Prop) → World → Value → α → Prop) (p : α → Bool) : Prop :=
  ∀ (x : α) (v : Value) (w1 : World), x ∈ xs → Below B w w1 → B ≤ w1.heap.size → IsA (Lt w1.heap.size) w1 v x →
    Calls Tryz.prog k (#[v] ++ cap) w1 fun e w2 => e = .returned (.bool (p x)) ∧ Below w1.heap.size w1 w2
def firstAt {α : Type} (p : α → Bool) (xs : List α) : Int := match xs.findIdx? p with | some i => (i : Int) | none => -1
theorem firstAt_hit {α : Type} (p : α → Bool) (xs : List α) (j : Nat) (x : α) (hx : xs[j]? = some x) (h : p x = true) (hn : ∀ q y, q < j → xs[q]? = some y → p y = false) : firstAt p xs = j := by
  have hj : j < xs.length := by
    rcases Nat.lt_or_ge j xs.length with h | h
    · exact h
    · rw [List.getElem?_eq_none h] at hx; cases hx
  have : xs.findIdx? p = some j := by
    rw [List.findIdx?_eq_some_iff_getElem]
    refine ⟨hj, ?_, fun q hq => ?_⟩
    · rw [List.getElem?_eq_getElem hj] at hx; injection hx with hx; rw [hx]; exact h
    · have := hn q _ hq (List.getElem?_eq_getElem (by omega)); simpa using this
  unfold firstAt; rw [this]
theorem firstAt_miss {α : Type} (p : α → Bool) (xs : List α) (hn : ∀ q y, q < xs.length → xs[q]? = some y → p y = false) : firstAt p xs = -1 := by
  have : xs.findIdx? p = none := by
    rw [List.findIdx?_eq_none_iff]
    intro x hx
    obtain ⟨q, hq, rfl⟩ := List.mem_iff_getElem.1 hx
    exact hn q _ hq (List.getElem?_eq_getElem hq)
  unfold firstAt; rw [this]
theorem firstAt_any {α : Type} (p : α → Bool) (xs : List α) : decide (0 ≤ firstAt p xs) = xs.any p := by
  unfold firstAt
  cases h : xs.findIdx? p with
  | none =>
    rw [List.findIdx?_eq_none_iff] at h
    rw [Bool.eq_iff_iff]
    simp
    exact fun x hx => by have := h x hx; simp [this]
  | some i =>
    rw [List.findIdx?_eq_some_iff_getElem] at h
    obtain ⟨h1, h2, _⟩ := h
    rw [Bool.eq_iff_iff]
    simp
    exact ⟨_, List.getElem_mem h1, h2⟩
def IsI (_ : Nat → Prop) (_ : World) (v : Value) (z : Int) : Prop := v = .int .i64 z ∧ Fit z
set_option maxHeartbeats 400000 in
theorem indexFuncI (k : FuncId) (eg : ∀ args w, (callFunc k args).run Tryz.prog w = .ok (.enter k args) w) (cap : Array Value) (tv : Value) (ts : List Int) (p : Int → Bool) (w : World) (ht : SlI (Lt w.heap.size) w tv ts)
    (hf : Asks1 k cap w.heap.size w ts IsI p) :
    Calls Tryz.prog 160 #[tv, .func (.func k) #[] cap] w fun e w' => e = .returned (.int .i64 (firstAt p ts)) ∧ Below w.heap.size w w' := by
  obtain ⟨A, c, rfl, h1, h2, ht⟩ := ht.open_
  have HF := Lib.hid hf
  clear hf
  go_enter Tryz.func160, Tryz.ntmps160
  go_wp2_with fail
  go_loopw [8] (fun i wr => ∃ j : Nat, j ≤ ts.length ∧ i = .int .i64 j ∧ (∀ q t, q < j → ts[q]? = some t → p t = false) ∧ Below w.heap.size w wr) (fun i _ => ts.length - (intOf i).toNat)
  case atStart => exact ⟨0, Nat.zero_le _, rfl, fun q _ h => absurd h (by omega), Below.refl _ _⟩
  case round =>
    obtain ⟨j, hj, rfl, hp, hb⟩ := hrel
    have hsz := hb.size
    have HP := Lib.hid hp
    clear hp
    by_cases hlt : j < ts.length
    · obtain ⟨b, o, t, rfl, hD, hx, hf, c0⟩ := (ht.below hb hsz).at_ hlt
      have hcall := HF.out t (.int .i64 t) wr (List.mem_of_getElem? hx) hb hsz ⟨rfl, hf⟩
      have HX := Lib.hid hx
      clear hx
      cases hq : p t with
      | true =>
        rw [hq] at hcall
        have HC := Lib.hid hcall
        have HQ := Lib.hid hq
        clear hcall hq
        go_wp2_with (go_at_fn k; refine HC.out.mono ?_; rintro e w' ⟨rfl, hb'⟩)
        go_ret
        exact ⟨ret_int (firstAt_hit p ts j t HX.out HQ.out HP.out).symm, below_step hb hb' hsz⟩
      | false =>
        rw [hq] at hcall
        have HC := Lib.hid hcall
        have HQ := Lib.hid hq
        clear hcall hq
        go_wp2_with (go_at_fn k; refine HC.out.mono ?_; rintro e w' ⟨rfl, hb'⟩)
        go_roundw
        case rel =>
          refine ⟨j + 1, by omega, by go_num, fun q y hq hy => ?_, below_step hb hb' hsz⟩
          by_cases e : q = j
          · subst e; rw [HX.out] at hy; injection hy with hy; subst hy; exact HQ.out
          · exact HP.out q y (by omega) hy
        case measure => simp [intOf]; omega
    · go_wp2_with fail
      go_ret
      exact ⟨ret_int (firstAt_miss p ts (fun q y hq hy => HP.out q y (by omega) hy)).symm, hb⟩
set_option maxHeartbeats 400000 in
theorem containsFuncI (k : FuncId) (eg : ∀ args w, (callFunc k args).run Tryz.prog w = .ok (.enter k args) w) (cap : Array Value) (tv : Value) (ts : List Int) (p : Int → Bool) (w : World) (ht : SlI (Lt w.heap.size) w tv ts)
    (hf : Asks1 k cap w.heap.size w ts IsI p) :
    Calls Tryz.prog 131 #[tv, .func (.func k) #[] cap] w fun e w' => e = .returned (.bool (ts.any p)) ∧ Below w.heap.size w w' := by
  have HC := Lib.hid (indexFuncI k eg cap tv ts p w ht hf)
  have HE := Lib.hid (firstAt_any p ts)
  clear hf ht
  generalize firstAt p ts = r at HC HE
  go_enter Tryz.func131, Tryz.ntmps131
  go_wp2_with (go_at_call 160; refine HC.out.mono ?_; rintro e w' ⟨rfl, hb'⟩)
  go_ret
  exact ⟨ret_bool HE.out, hb'⟩
end Go.Proofs.YtlmenhjlgmejkaaGreatDoor

namespace Go.Proofs.YtlmenhjlgmejkaaGreatDoor
open Go.RowKit
def tokensOk (k : Int) : Bool := decide (0 ≤ k) && decide (k ≤ 100)
def markingB (P : Int) (m : List Int) : Bool := decide ((m.length : Int) = P) && m.all tokensOk
def canB (ins : List Int) (m : List Int) : Bool := ins.all fun p => decide (1 ≤ m.getD p.toNat 0)
set_option maxHeartbeats 400000 in
theorem marking1_any (z : Int) (v : Value) (w : World) (D : Nat → Prop) (h : IsI D w v z) :
    Calls Tryz.prog 132 #[v] w fun e w' => e = .returned (.bool (!tokensOk z)) ∧ Below w.heap.size w w' := by
  obtain ⟨rfl, hf⟩ := h
  unfold tokensOk
  by_cases h1 : 0 ≤ z <;> by_cases h2 : z ≤ 100
  all_goals
    go_enter Tryz.func132, Tryz.ntmps132
    go_wp2
    go_ret
    exact ⟨by simp [h1, h2], Below.refl _ _⟩
theorem any_not_all (m : List Int) : m.any (fun z => !tokensOk z) = !m.all tokensOk := by
  induction m with
  | nil => rfl
  | cons a m ih => simp [List.any_cons, List.all_cons, ih]
set_option maxHeartbeats 400000 in
theorem marking_any (n : Net) (v mv : Value) (m : List Int) (w : World) (h : IsNet (Lt w.heap.size) w v n) (hm : SlI (Lt w.heap.size) w mv m) :
    Calls Tryz.prog 90 #[v, mv] w fun e w' => e = .returned (.bool (validB n && markingB n.places m)) ∧ Below w.heap.size w w' := by
  have eg : ∀ args w, (callFunc 132 args).run Tryz.prog w = .ok (.enter 132 args) w := enters_of Tryz.func132 (by kernel_rfl) rfl
  have HC := Lib.hid (fun W (hW : SlI (Lt W.heap.size) W mv m) => containsFuncI 132 eg #[] mv m (fun z => !tokensOk z) W hW (fun x v w1 _ _ _ h => marking1_any x v w1 _ h))
  clear eg
  have h0 := h
  obtain ⟨tv, rfl, hp, hs, hk, ht⟩ := h
  obtain ⟨A, c, rfl, h1, h2, ht⟩ := ht.open_
  obtain ⟨Am, cm, rfl, m1, m2, hm⟩ := hm.open_
  unfold markingB
  go_enter Tryz.func90, Tryz.ntmps90
  go_wp2_with fail
  refine (valid_any n _ _ (by exact h0.now (bone _ _))).mono ?_
  rintro e w1 ⟨rfl, hb1⟩
  have hB1 := (Blk.new w 24 #[.int .i64 n.places, .slice A n.trans.length c, .int .i64 n.source, .int .i64 n.sink]).now hb1
  obtain ⟨p0, p1, p2, p3⟩ := hB1.c4
  have hb01 := bthen (bone _ _) hb1
  generalize hv : validB n = q
  have HV := Lib.hid hv
  clear hv
  cases q
  · go_wp2_with fail
    go_ret
    exact ⟨ret_bool (by rw [HV.out]; rfl), hb01⟩
  · by_cases hq : (m.length : Int) = n.places
    · have hq' : ((m.length : Int) == n.places) = true := by simpa using hq
      have HQ := Lib.hid hq
      clear hq
      go_wp2_with fail
      refine (HC.out _ (hm.now hb01)).mono ?_
      rintro e w2 ⟨rfl, hb2⟩
      have HE : Hid ((true && (decide ((m.length : Int) = n.places) && m.all tokensOk)) = !(m.any fun z => !tokensOk z)) := by
        show (true && (decide ((m.length : Int) = n.places) && m.all tokensOk)) = _; rw [any_not_all]; simp [HQ.out]
      generalize (m.any fun z => !tokensOk z) = r at HE ⊢
      go_wp2_with fail
      go_ret
      exact ⟨ret_bool (by rw [HV.out]; exact HE.out.symm), bthen hb01 hb2⟩
    · have hq' : ((m.length : Int) == n.places) = false := by simpa using hq
      have HE : Hid ((true && (decide ((m.length : Int) = n.places) && m.all tokensOk)) = false) := by
        show (true && (decide ((m.length : Int) = n.places) && m.all tokensOk)) = _; simp [hq]
      clear hq
      go_wp2_with fail
      go_ret
      exact ⟨ret_bool (by rw [HV.out]; exact HE.out.symm), hb01⟩
def Inside (ins m : List Int) : Prop := ∀ p, p ∈ ins → 0 ≤ p ∧ p.toNat < m.length
def NonNeg (m : List Int) : Prop := ∀ z, z ∈ m → 0 ≤ z
set_option maxHeartbeats 400000 in
theorem enabled1_any (p : Int) (v mv : Value) (B : Nat) (m : List Int) (w : World) (h : v = .int .i64 p) (hp : 0 ≤ p ∧ p.toNat < m.length) (hn : NonNeg m) (hc : w.cell? ⟨B, 0, none⟩ = some mv) (hm : SlI (Lt w.heap.size) w mv m) :
    Calls Tryz.prog 141 #[v, .pointer (some ⟨B, 0, none⟩)] w fun e w' => e = .returned (.bool (!decide (1 ≤ m.getD p.toNat 0))) ∧ Below w.heap.size w w' := by
  subst h
  obtain ⟨k, rfl⟩ := Int.eq_ofNat_of_zero_le hp.1
  obtain ⟨Am, cm, rfl, m1, m2, hm⟩ := hm.open_
  rw [Int.toNat_natCast] at *
  have hk : k < m.length := hp.2
  obtain ⟨b, o, x, rfl, hD, hx, hf, hcell⟩ := hm.at_ hk
  have hg := getD_of hx
  have hx0 := hn x (List.mem_of_getElem? hx)
  rw [hg]
  clear hx hg hp
  by_cases h1 : x = 0
  · subst h1
    go_enter Tryz.func141, Tryz.ntmps141
    go_wp2
    go_ret
    exact ⟨rfl, Below.refl _ _⟩
  · have h2 : (x == 0) = false := by simpa using h1
    have h3 : 1 ≤ x := by omega
    clear h1
    go_enter Tryz.func141, Tryz.ntmps141
    go_wp2
    go_ret
    exact ⟨by simp [h3], Below.refl _ _⟩
theorem any_not_can (ins m : List Int) : ins.any (fun p => !decide (1 ≤ m.getD p.toNat 0)) = !canB ins m := by
  unfold canB
  induction ins with
  | nil => rfl
  | cons a l ih => simp only [List.any_cons, List.all_cons, ih, Bool.not_and]
set_option maxHeartbeats 400000 in
theorem enabled_any (t : Tr) (v mv : Value) (m : List Int) (w : World) (h : IsTr (Lt w.heap.size) w v t) (hm : SlI (Lt w.heap.size) w mv m) (hi : Inside t.ins m) (hn : NonNeg m) :
    Calls Tryz.prog 99 #[v, mv] w fun e w' => e = .returned (.bool (canB t.ins m)) ∧ Below w.heap.size w w' := by
  have eg : ∀ args w, (callFunc 141 args).run Tryz.prog w = .ok (.enter 141 args) w := enters_of Tryz.func141 (by kernel_rfl) rfl
  have HC := Lib.hid (fun (iv : Value) (B : Nat) (W : World) (hW : SlI (Lt W.heap.size) W iv t.ins) (hc : W.cell? ⟨B, 0, none⟩ = some mv) (hB : B < W.heap.size) (hm : SlI (Lt W.heap.size) W mv m) =>
    containsFuncI 141 eg #[.pointer (some ⟨B, 0, none⟩)] iv t.ins (fun p => !decide (1 ≤ m.getD p.toNat 0)) W hW
      (fun x v w1 hx hb _ h => enabled1_any x v mv B m w1 h.1 (hi x hx) hn ((hb.cell (p := ⟨B, 0, none⟩) hB).trans hc) (hm.now hb)))
  clear eg
  obtain ⟨iv, ov, rfl, hl, hti, hto⟩ := h
  obtain ⟨Ai, ci, rfl, i1, i2, hti⟩ := hti.open_
  obtain ⟨Ao, co, rfl, o1, o2, hto⟩ := hto.open_
  obtain ⟨Am, cm, rfl, m1, m2, hm⟩ := hm.open_
  go_enter Tryz.func99, Tryz.ntmps99
  go_wp2_with fail
  refine (HC.out _ _ _ (by exact hti.now (bbox (bone _ _) _)) (by simp) (by simp) (by exact hm.now (bbox (bone _ _) _))).mono ?_
  rintro e w2 ⟨rfl, hb2⟩
  rw [any_not_can]
  generalize hr : canB t.ins m = r
  have HR := Lib.hid hr
  clear hr
  go_wp2_with fail
  go_ret
  exact ⟨ret_bool HR.out.symm, bthen (bbox (bone _ _) _) hb2⟩
end Go.Proofs.YtlmenhjlgmejkaaGreatDoor

namespace Go.Proofs.YtlmenhjlgmejkaaGreatDoor
open Go.RowKit
def bump1 (d : Int) (m : List Int) (p : Int) : List Int := m.set p.toNat (m.getD p.toNat 0 + d)
def bump (d : Int) (m ps : List Int) : List Int := ps.foldl (bump1 d) m
theorem bump1_length (d : Int) (m : List Int) (p : Int) : (bump1 d m p).length = m.length := by unfold bump1; simp
theorem bump_length (d : Int) (ps : List Int) : ∀ m, (bump d m ps).length = m.length := by
  unfold bump
  induction ps with
  | nil => intro m; rfl
  | cons p ps ih => intro m; rw [List.foldl_cons, ih, bump1_length]
theorem bump_snoc (d : Int) (m ps : List Int) (k : Nat) (p : Int) (h : ps[k]? = some p) : bump d m (ps.take (k + 1)) = bump1 d (bump d m (ps.take k)) p := by
  unfold bump
  have hk : k < ps.length := by
    rcases Nat.lt_or_ge k ps.length with h' | h'
    · exact h'
    · rw [List.getElem?_eq_none h'] at h; cases h
  rw [List.getElem?_eq_getElem hk] at h
  injection h with h
  rw [List.take_succ_eq_append_getElem hk, List.foldl_append, h]
  rfl
def Within (lo hi : Int) (m : List Int) : Prop := ∀ z ∈ m, lo ≤ z ∧ z ≤ hi
theorem within_get {lo hi : Int} {m : List Int} (h : Within lo hi m) {k : Nat} (hk : k < m.length) : lo ≤ m.getD k 0 ∧ m.getD k 0 ≤ hi := by
  rw [List.getD_eq_getElem?_getD, List.getElem?_eq_getElem hk]; exact h _ (List.getElem_mem hk)
theorem within_set {lo hi : Int} {m : List Int} (h : Within lo hi m) (k : Nat) (x : Int) (hx : lo ≤ x ∧ x ≤ hi) : Within lo hi (m.set k x) := by
  intro z hz
  rcases List.mem_or_eq_of_mem_set hz with h' | h'
  · exact h z h'
  · subst h'; exact hx
theorem within_mono {lo hi lo' hi' : Int} {m : List Int} (h : Within lo hi m) (h1 : lo' ≤ lo) (h2 : hi ≤ hi') : Within lo' hi' m := fun z hz => by have := h z hz; omega
theorem within_bump (d : Int) (hd : d = 1 ∨ d = -1) (ps : List Int) : ∀ (lo hi : Int) (m : List Int), Within lo hi m → lo ≤ 0 → 0 ≤ hi → (∀ p ∈ ps, p.toNat < m.length) → Within (lo - ps.length) (hi + ps.length) (bump d m ps) := by
  unfold bump
  induction ps with
  | nil => intro lo hi m h _ _ _; exact within_mono h (by simp) (by simp)
  | cons p ps ih =>
    intro lo hi m h h0 h1 hp
    rw [List.foldl_cons]
    have hg := within_get h (hp p (by simp))
    have h2 : Within (lo - 1) (hi + 1) (bump1 d m p) := by
      unfold bump1
      exact within_set (within_mono h (by omega) (by omega)) _ _ (by rcases hd with rfl | rfl <;> omega)
    have := ih (lo - 1) (hi + 1) _ h2 (by omega) (by omega) (fun q hq => by rw [bump1_length]; exact hp q (by simp [hq]))
    exact within_mono this (by simp; omega) (by simp; omega)
theorem places_spec {P : Int} {zs : List Int} (h : placesB P zs = true) : (∀ (k : Nat) (x : Int), zs[k]? = some x → 0 ≤ x ∧ x < P) ∧ (∀ (k : Nat) (x y : Int), zs[k]? = some x → zs[k+1]? = some y → x < y) := by
  unfold placesB at h
  rw [List.all_eq_true] at h
  have hl : ∀ (k : Nat) (x : Int), zs[k]? = some x → k < zs.length := fun k x hx => by
    rcases Nat.lt_or_ge k zs.length with h' | h'
    · exact h'
    · rw [List.getElem?_eq_none h'] at hx; cases hx
  refine ⟨fun k x hx => ?_, fun k x y hx hy => ?_⟩
  · have := h k (List.mem_range.2 (hl k x hx))
    unfold placeAt at this
    rw [getD_of hx] at this
    simp at this
    omega
  · have := h (k + 1) (List.mem_range.2 (hl (k + 1) y hy))
    unfold placeAt at this
    rw [Nat.add_sub_cancel, getD_of hx, getD_of hy] at this
    simp at this
    omega
theorem places_asc {P : Int} {zs : List Int} (h : placesB P zs = true) : ∀ (d k : Nat) (x y : Int), zs[k]? = some x → zs[k + (d + 1)]? = some y → x + d < y := by
  obtain ⟨_, h2⟩ := places_spec h
  intro d
  induction d with
  | zero => intro k x y hx hy; have := h2 k x y hx hy; omega
  | succ d ih =>
    intro k x y hx hy
    have hm : ∃ z, zs[k + (d + 1)]? = some z := by
      have : k + (d + 1 + 1) < zs.length := by
        rcases Nat.lt_or_ge (k + (d + 1 + 1)) zs.length with h' | h'
        · exact h'
        · rw [List.getElem?_eq_none h'] at hy; cases hy
      exact ⟨_, List.getElem?_eq_getElem (by omega)⟩
    obtain ⟨z, hz⟩ := hm
    have a := ih k x z hx hz
    have b := h2 (k + (d + 1)) z y hz hy
    omega
theorem places_len {P : Int} {zs : List Int} (h : placesB P zs = true) : zs.length ≤ P.toNat := by
  rcases Nat.eq_zero_or_pos zs.length with h0 | h0
  · omega
  · obtain ⟨h1, _⟩ := places_spec h
    rcases Nat.eq_zero_or_pos (zs.length - 1) with h3 | h3
    · have := h1 0 zs[0] (List.getElem?_eq_getElem h0); omega
    · have a := places_asc h (zs.length - 2) 0 zs[0] zs[zs.length - 1] (List.getElem?_eq_getElem h0) (by rw [show 0 + (zs.length - 2 + 1) = zs.length - 1 from by omega]; exact List.getElem?_eq_getElem (by omega))
      have b := h1 0 zs[0] (List.getElem?_eq_getElem h0)
      have c := h1 (zs.length - 1) zs[zs.length - 1] (List.getElem?_eq_getElem (by omega))
      omega
theorem places_mem {P : Int} {zs : List Int} (h : placesB P zs = true) : ∀ p ∈ zs, 0 ≤ p ∧ p < P := by
  intro p hp
  obtain ⟨q, hq, rfl⟩ := List.mem_iff_getElem.1 hp
  exact (places_spec h).1 q _ (List.getElem?_eq_getElem hq)
theorem places_tail {P a : Int} {zs : List Int} (h : placesB P (a :: zs) = true) : placesB P zs = true ∧ a ∉ zs := by
  obtain ⟨h1, h2⟩ := places_spec h
  refine ⟨?_, fun hm => ?_⟩
  · apply places_ok
    intro j hj
    rcases Nat.eq_zero_or_pos j with h0 | h0
    · subst h0
      rw [placeAt_zero (x := zs[0]) (List.getElem?_eq_getElem hj)]
      have := h1 1 zs[0] (by simp)
      simpa using this
    · obtain ⟨i, rfl⟩ : ∃ i, j = i + 1 := ⟨j - 1, by omega⟩
      rw [placeAt_pos (x := zs[i + 1]) (y := zs[i]) (List.getElem?_eq_getElem hj) (List.getElem?_eq_getElem (by omega)) h0]
      have a1 := h1 (i + 1 + 1) zs[i + 1] (by simp [hj])
      have a2 := h2 (i + 1) zs[i] zs[i + 1] (by simp) (by simp [hj])
      simp
      omega
  · obtain ⟨q, hq, e⟩ := List.mem_iff_getElem.1 hm
    have := places_asc h q 0 a zs[q] (by simp) (by simp [hq])
    omega
theorem getD_bump1 (d : Int) (m : List Int) (p : Int) (k : Nat) (hp : p.toNat < m.length) : (bump1 d m p).getD k 0 = if p.toNat = k then m.getD k 0 + d else m.getD k 0 := by
  unfold bump1
  simp only [List.getD_eq_getElem?_getD, List.getElem?_set]
  by_cases h : p.toNat = k
  · subst h; simp [hp]
  · simp [h]
theorem getD_bump (d : Int) (P : Int) (ps : List Int) : ∀ (m : List Int), (m.length : Int) = P → placesB P ps = true → ∀ k, (bump d m ps).getD k 0 = m.getD k 0 + (if (k : Int) ∈ ps then d else 0) := by
  induction ps with
  | nil => intro m _ _ k; simp [bump]
  | cons p ps ih =>
    intro m hm hp k
    obtain ⟨ht, hn⟩ := places_tail hp
    have hp0 := places_mem hp p (by simp)
    have e : bump d m (p :: ps) = bump d (bump1 d m p) ps := rfl
    rw [e, ih (bump1 d m p) (by rw [bump1_length]; exact hm) ht k, getD_bump1 d m p k (by omega)]
    by_cases h : p.toNat = k
    · have hk : (k : Int) = p := by omega
      rw [if_pos h, hk, if_neg hn, if_pos (by simp)]
      omega
    · have hk : ¬ (k : Int) = p := by omega
      rw [if_neg h]
      simp [hk]
theorem foldl_max_gt (c : Int) (zs : List Int) : ∀ a : Int, c < zs.foldl max a ↔ c < a ∨ ∃ z ∈ zs, c < z := by
  induction zs with
  | nil => intro a; simp
  | cons z zs ih =>
    intro a
    rw [List.foldl_cons, ih]
    constructor
    · rintro (h | ⟨y, hy, h⟩)
      · rcases (show c < a ∨ c < z from by omega) with h' | h'
        · exact .inl h'
        · exact .inr ⟨z, by simp, h'⟩
      · exact .inr ⟨y, by simp [hy], h⟩
    · rintro (h | ⟨y, hy, h⟩)
      · exact .inl (by omega)
      · rcases List.mem_cons.1 hy with rfl | hy
        · exact .inl (by omega)
        · exact .inr ⟨y, hy, h⟩
theorem maxOf_gt (c : Int) (zs : List Int) (h : 0 < zs.length) : c < Lib.maxOf zs ↔ ∃ z ∈ zs, c < z := by
  unfold Lib.maxOf
  match zs, h with
  | z :: zs, _ =>
    rw [List.headD_cons, foldl_max_gt]
    constructor
    · rintro (h | h)
      · exact ⟨z, by simp, h⟩
      · exact h
    · exact .inr
def outOf (t : Tr) (m : List Int) : List Int := bump 1 (bump (-1) m t.ins) t.outs
def fireT (t : Tr) (m : List Int) : List Int × Int :=
  if canB t.ins m = false then ([], 12) else if 100 < Lib.maxOf (outOf t m) then ([], 5) else (outOf t m, 0)
def fireB (n : Net) (m : List Int) (t : Int) : List Int × Int :=
  if t < 0 then ([], 2) else match n.trans[t.toNat]? with
    | none => ([], 2)
    | some x => fireT x m
end Go.Proofs.YtlmenhjlgmejkaaGreatDoor

namespace Go.Proofs.YtlmenhjlgmejkaaGreatDoor
open Go.RowKit
theorem cloneI (v : Value) (zs : List Int) (w : World) (h : SlI (Lt w.heap.size) w v zs) (hz : zs.length * 8 ≤ 140737488355328) :
    Calls Tryz.prog 64 #[v] w fun e w' => ∃ v', e = .returned v' ∧ w'.ownsRow w.heap.size 3 1 v' zs.length (zs.map (Value.int .i64)) ∧ Below w.heap.size w w' := by
  obtain ⟨A, c, rfl, h1, h2, h⟩ := h.open_
  by_cases hn : 0 < zs.length
  · obtain ⟨b, o, rfl, hD, _, hc⟩ := h.cells hn
    refine (Tryz.slices_Clone_int b o zs.length c zs w (Nat.le_refl _) hz hc).mono ?_
    rintro e w' ⟨v', rfl, ho, _, hb⟩
    rw [List.take_of_length_le (Nat.le_refl _)] at ho
    exact ⟨v', rfl, ho, hb⟩
  · have : zs = [] := List.eq_nil_of_length_eq_zero (by omega)
    subst this
    rcases A with _ | a
    · refine (Tryz.slices_Clone_int_nil _ _ w).mono ?_
      rintro e w' ⟨rfl, rfl⟩
      exact ⟨_, rfl, World.ownsRow_nil _ _ _ _, Below.refl _ _⟩
    · refine (Tryz.slices_Clone_int_zero a c w).mono ?_
      rintro e w' ⟨v', rfl, ho, _, hb⟩
      exact ⟨v', rfl, ho, hb⟩
theorem equalI (u v : Value) (xs ys : List Int) (w : World) (hu : SlI (Lt w.heap.size) w u xs) (hv : SlI (Lt w.heap.size) w v ys) :
    Calls Tryz.prog 38 #[u, v] w fun e w' => e = .returned (.bool (xs == ys)) ∧ ∃ q, w' = w.drewN q := by
  obtain ⟨A, c, rfl, h1, h2, hu⟩ := hu.open_
  obtain ⟨A', c', rfl, h1', h2', hv⟩ := hv.open_
  by_cases hn : 0 < xs.length ∧ 0 < ys.length
  · obtain ⟨b, o, rfl, hD, _, hc⟩ := hu.cells hn.1
    obtain ⟨b', o', rfl, hD', _, hc'⟩ := hv.cells hn.2
    refine (Tryz.slices_Equal_int b o xs.length c b' o' ys.length c' xs ys w (Nat.le_refl _) (Nat.le_refl _) (by omega) (by omega) hc hc').mono ?_
    rintro e w' ⟨rfl, hq⟩
    rw [List.take_of_length_le (Nat.le_refl _), List.take_of_length_le (Nat.le_refl _)]
    exact ⟨rfl, hq⟩
  · by_cases hl : xs.length = ys.length
    · have e1 : xs = [] := List.eq_nil_of_length_eq_zero (by omega)
      have e2 : ys = [] := List.eq_nil_of_length_eq_zero (by omega)
      subst e1 e2
      refine (Tryz.slices_Equal_int_empty A A' c 0 c' w (by omega)).mono ?_
      rintro e w' ⟨rfl, rfl⟩
      exact ⟨rfl, 0, rfl⟩
    · refine (Tryz.slices_Equal_int_lens A A' xs.length c ys.length c' w hl).mono ?_
      rintro e w' ⟨rfl, rfl⟩
      refine ⟨ret_bool ?_, 0, rfl⟩
      symm
      rw [beq_eq_false_iff_ne]
      exact fun e => hl (by rw [e])
theorem maxI (v : Value) (xs : List Int) (w : World) (hu : SlI (Lt w.heap.size) w v xs) (hn : 0 < xs.length) :
    Calls Tryz.prog 133 #[v] w fun e w' => e = .returned (.int .i64 (Lib.maxOf xs)) ∧ w' = w := by
  obtain ⟨A, c, rfl, h1, h2, hu⟩ := hu.open_
  obtain ⟨b, o, rfl, hD, _, hc⟩ := hu.cells hn
  refine (Tryz.slices_Max_int b o xs.length c xs w hn (Nat.le_refl _) (by omega) hc).mono ?_
  rintro e w' ⟨rfl, hq⟩
  rw [List.take_of_length_le (Nat.le_refl _)]
  exact ⟨rfl, hq⟩
end Go.Proofs.YtlmenhjlgmejkaaGreatDoor
