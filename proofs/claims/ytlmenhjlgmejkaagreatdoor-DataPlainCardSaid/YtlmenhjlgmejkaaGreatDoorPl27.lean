/- Merged texts. -/
import Derived.Test.YtlmenhjlgmejkaaGreatDoorPl26
set_option linter.all false
namespace Go.Proofs.YtlmenhjlgmejkaaGreatDoor
open Go.RowKit
theorem trueX_typed : typedB [] trueX 1 = true := by
  unfold typedB givenE
  have h1 : validX trueX = true := by
    have hs : shapeX trueX = true := by simp [shapeX, trueX, Ex.op, Ex.l, Ex.s, Ex.v, noS, validV, emptyS, Lib.toList_data]
    have hc : cntL [] 399 59 = 399 := by rw [cntL]
    unfold validX
    rw [cntX_eq, hs, if_neg (by simp)]
    show decide (0 ≤ cntL [] 399 59) = true
    rw [hc]
    rfl
  have h2 : varsB [] = true := rfl
  have h3 : typX [] trueX = (1, 0) := by
    unfold trueX
    rw [typX_eq]
    rfl
  rw [h1, h2, h3]
  rfl
theorem trueX_guard : guardB [] [] trueX = true := by
  unfold guardB trueX
  rw [evX_eq]
  rfl
theorem asg_nil : asgB [] [] = true := rfl
theorem plain_valid (n : Net) : dvalidB (plainD n) = validB n := by
  unfold dvalidB plainD
  have h1 : (List.replicate n.trans.length trueX).all (fun x => typedB [] x 1) = true := by
    rw [List.all_eq_true]
    intro x hx
    rw [(List.mem_replicate.1 hx).2]
    exact trueX_typed
  have h2 : (List.replicate n.trans.length ([] : List Wr)).all (wrsB [] (-1)) = true := by
    rw [List.all_eq_true]
    intro x hx
    rw [(List.mem_replicate.1 hx).2]
    rfl
  dsimp only
  rw [h1, h2, asg_nil]
  simp
theorem plain_state (n : Net) (m : List Int) : vstateB (plainD n) ⟨m, []⟩ = (validB n && markingB n.places m) := by
  unfold vstateB stateB
  rw [plain_valid]
  show (validB n && (validB n && markingB n.places m && asgB [] [])) = _
  rw [asg_nil]
  cases validB n <;> simp
theorem plain_fire (n : Net) (m : List Int) (t : Nat) (ht : t < n.trans.length) : fireD (plainD n) ⟨m, []⟩ (t : Int) = if (fireB n m (t : Int)).2 = 0 then (⟨(fireB n m (t : Int)).1, []⟩, 0) else (noSt, (fireB n m (t : Int)).2) := by
  have hg : ((List.replicate n.trans.length trueX)[t]?).getD (.mk 0 noV emptyS []) = trueX := by rw [List.getElem?_replicate, if_pos ht]; rfl
  have hw : ((List.replicate n.trans.length ([] : List Wr))[t]?).getD [] = [] := by rw [List.getElem?_replicate, if_pos ht]; rfl
  unfold fireD plainD
  dsimp only
  rw [if_neg (by omega), Int.toNat_natCast, hg, hw, trueX_guard]
  by_cases h12 : (fireB n m (t : Int)).2 = 12
  · rw [if_pos h12, if_neg (by omega), h12]
  · rw [if_neg h12, if_neg (by simp)]
    show (if (fireB n m (t : Int)).2 ≠ 0 then _ else _) = _
    by_cases h0 : (fireB n m (t : Int)).2 = 0
    · rw [if_neg (by simpa using h0), if_pos h0]
    · rw [if_pos h0, if_neg h0]
theorem fireB_at {n : Net} {m : List Int} {t : Nat} {x : Tr} (hx : n.trans[t]? = some x) : fireB n m (t : Int) = fireT x m := by
  unfold fireB
  rw [if_neg (by omega), Int.toNat_natCast, hx]
theorem fireB_off {n : Net} {m : List Int} {t : Nat} (ht : t < n.trans.length) (h : canAt n m t = false) : (fireB n m (t : Int)).2 = 12 := by
  have hx : n.trans[t]? = some n.trans[t] := List.getElem?_eq_getElem ht
  rw [fireB_at hx]
  unfold canAt at h
  rw [hx] at h
  unfold fireT
  rw [if_pos h]
theorem fireB_on {n : Net} {m : List Int} {t : Nat} (ht : t < n.trans.length) (h : canAt n m t = true) : (fireB n m (t : Int)).2 = 0 ∨ (fireB n m (t : Int)).2 = 5 := by
  have hx : n.trans[t]? = some n.trans[t] := List.getElem?_eq_getElem ht
  rw [fireB_at hx]
  unfold canAt at h
  rw [hx] at h
  unfold fireT
  have h' : canB n.trans[t].ins m = true := h
  rw [h', if_neg (by simp)]
  split
  · exact .inr rfl
  · exact .inl rfl
def enFrom (n : Net) (m : List Int) : Nat → Nat → List Int
  | 0, _ => []
  | f + 1, t => if canAt n m t then (t : Int) :: enFrom n m f (t + 1) else enFrom n m f (t + 1)
theorem enTo_from (n : Net) (m : List Int) : ∀ f t, enTo n m (t + f) = enTo n m t ++ enFrom n m f t := by
  intro f
  induction f with
  | zero => intro t; simp [enFrom]
  | succ f ih =>
    intro t
    rw [show t + (f + 1) = (t + 1) + f by omega, ih, enFrom]
    have : enTo n m (t + 1) = enTo n m t ++ (if canAt n m t then [(t : Int)] else []) := by
      unfold enTo
      rw [List.range_succ, List.filter_append, List.map_append]
      cases h : canAt n m t <;> simp [h]
    rw [this]
    cases h : canAt n m t <;> simp
theorem enB_from (n : Net) (m : List Int) : enB n m = enFrom n m n.trans.length 0 := by
  have := enTo_from n m n.trans.length 0
  rw [Nat.zero_add] at this
  unfold enB
  rw [this]
  simp [enTo]
def exL (n : DNet) (most i : Nat) (s : St) : List Int → Sp → Option Sp
  | [], p => some p
  | t :: l, p => (exT n most i s t.toNat p).bind fun q => exL n most i s l q
theorem sp_eta (p : Sp) : (⟨p.states, p.moves, p.full && true⟩ : Sp) = p := by cases p; simp
theorem exRow_list (n : Net) (most i : Nat) (m : List Int) : ∀ (f t : Nat) (p : Sp), t + f ≤ n.trans.length → exRow (plainD n) most i ⟨m, []⟩ f t p = exL (plainD n) most i ⟨m, []⟩ (enFrom n m f t) p := by
  intro f
  induction f with
  | zero => intro t p _; rfl
  | succ f ih =>
    intro t p h
    rw [exRow, enFrom]
    cases hc : canAt n m t with
    | true =>
      rw [if_pos rfl, exL, Int.toNat_natCast]
      congr 1
      funext q
      exact ih (t + 1) q (by omega)
    | false =>
      rw [if_neg (by simp)]
      have h1 := fireB_off (by omega : t < n.trans.length) hc
      have h2 := plain_fire n m t (by omega)
      rw [if_neg (by omega), h1] at h2
      have h3 : exT (plainD n) most i ⟨m, []⟩ t p = some p := by
        rw [exT_err (by rw [h2]; decide), h2]
        show some (⟨p.states, p.moves, p.full && true⟩ : Sp) = _
        rw [sp_eta]
      rw [h3]
      exact ih (t + 1) p (by omega)
theorem exRow_enB (n : Net) (most i : Nat) (m : List Int) (p : Sp) : exRow (plainD n) most i ⟨m, []⟩ n.trans.length 0 p = exL (plainD n) most i ⟨m, []⟩ (enB n m) p := by
  rw [exRow_list n most i m n.trans.length 0 p (by omega), enB_from]
theorem enB_at {n : Net} {m : List Int} {j : Nat} {z : Int} (h : (enB n m)[j]? = some z) : ∃ t : Nat, z = (t : Int) ∧ t < n.trans.length ∧ canAt n m t = true := by
  have := List.mem_of_getElem? h
  unfold enB enTo at this
  obtain ⟨t, ht, rfl⟩ := List.mem_map.1 this
  obtain ⟨h1, h2⟩ := List.mem_filter.1 ht
  exact ⟨t, rfl, List.mem_range.1 h1, h2⟩
section
variable {n : DNet} {most i j t : Nat} {s : St} {p q : Sp} {l : List Int} {R : Option Sp} {F : Sp → Option Sp}
theorem exL_some (ht : l[j]? = some (t : Int)) (hq : exT n most i s t p = some q) (h : (exL n most i s (l.drop j) p).bind F = R) : (exL n most i s (l.drop (j + 1)) q).bind F = R := by
  have hj := lt_of_get ht
  rw [List.getElem?_eq_getElem hj] at ht
  injection ht with ht
  rw [List.drop_eq_getElem_cons hj, ht, exL, Int.toNat_natCast, hq] at h
  exact h
theorem exL_none (ht : l[j]? = some (t : Int)) (hq : exT n most i s t p = none) (h : (exL n most i s (l.drop j) p).bind F = R) : R = none := by
  have hj := lt_of_get ht
  rw [List.getElem?_eq_getElem hj] at ht
  injection ht with ht
  rw [List.drop_eq_getElem_cons hj, ht, exL, Int.toNat_natCast, hq] at h
  exact h.symm
theorem exL_end (h : (exL n most i s (l.drop l.length) p).bind F = R) : F p = R := by
  rw [List.drop_length, exL] at h
  exact h
end
theorem all_someL {n : Net} {most i : Nat} {s : St} {p : Sp} {R : Option Sp} (hv : s.vals = []) (hi : i < most + 1) (hs : p.states[i]? = some s) (h : exAll (plainD n) most (most + 1 - i) i p = R) : (exL (plainD n) most i s ((enB n s.marks).drop 0) p).bind (fun q => exAll (plainD n) most (most + 1 - (i + 1)) (i + 1) q) = R := by
  have := all_some hi hs h
  obtain ⟨m, v⟩ := s
  dsimp only at hv
  subst hv
  rw [List.drop_zero, ← exRow_enB]
  exact this
theorem vals_nil {n : Net} {s : St} (h : stateB (plainD n) s = true) : s.vals = [] := by
  obtain ⟨_, _, h3⟩ := state_parts h
  obtain ⟨_, _, h4, _⟩ := asg_parts h3
  exact List.eq_nil_of_length_eq_zero h4
theorem st_eta {s : St} (h : s.vals = []) : s = ⟨s.marks, []⟩ := by cases s; dsimp only at h; rw [h]
def key2 (m : List Int) : List UInt8 := m.flatMap fun k => [UInt8.ofNat k.toNat, 0]
theorem key2_inj : ∀ {m m' : List Int}, (∀ z ∈ m, 0 ≤ z ∧ z ≤ 100) → (∀ z ∈ m', 0 ≤ z ∧ z ≤ 100) → key2 m = key2 m' → m = m' := by
  intro m
  induction m with
  | nil =>
    intro m' _ _ h
    cases m' with
    | nil => rfl
    | cons a m' => simp [key2] at h
  | cons a m ih =>
    intro m' h1 h2 h
    cases m' with
    | nil => simp [key2] at h
    | cons b m' =>
      have e : UInt8.ofNat a.toNat = UInt8.ofNat b.toNat ∧ key2 m = key2 m' := by simpa [key2] using h
      obtain ⟨e1, e2⟩ := e
      have ha := h1 a (by simp)
      have hb := h2 b (by simp)
      have e3 : a = b := by
        have := congrArg UInt8.toNat e1
        simp at this
        omega
      rw [e3, ih (fun z hz => h1 z (by simp [hz])) (fun z hz => h2 z (by simp [hz])) e2]
theorem key2_len (m : List Int) : (key2 m).length = 2 * m.length := by
  induction m with
  | nil => rfl
  | cons a m ih => have : key2 (a :: m) = [UInt8.ofNat a.toNat, 0] ++ key2 m := rfl; rw [this, List.length_append, ih]; simp; omega
theorem key2_snoc {m : List Int} {j : Nat} {z : Int} (h : m[j]? = some z) : key2 (m.take (j + 1)) = key2 (m.take j) ++ [UInt8.ofNat z.toNat, 0] := by
  have hj := lt_of_get h
  rw [List.getElem?_eq_getElem hj] at h
  injection h with h
  rw [List.take_succ_eq_append_getElem hj, h]
  unfold key2
  rw [List.flatMap_append]
  simp
theorem pos_idx2 {n : Net} {l : List St} {s : St} (hl : ∀ x ∈ l, stateB (plainD n) x = true) (hs : stateB (plainD n) s = true) : posB (l.map fun s => key2 s.marks) (key2 s.marks) = idxS l s := by
  unfold posB idxS
  rw [List.findIdx?_map]
  refine findIdx_congr l fun x hx => ?_
  show decide (key2 x.marks = key2 s.marks) = decide (x = s)
  rw [decide_eq_decide]
  refine ⟨fun h => ?_, fun h => by rw [h]⟩
  have h1 := (markOk (n := n) (state_parts (hl x hx)).2.1).2
  have h2 := (markOk (n := n) (state_parts hs).2.1).2
  have := key2_inj h1 h2 h
  rw [st_eta (vals_nil (hl x hx)), st_eta (vals_nil hs), this]
theorem firesTo_enB {n : Net} {m : List Int} (h : ∀ t : Nat, t < n.trans.length → (fireD (plainD n) ⟨m, []⟩ (t : Int)).2 ≠ 5) : firesTo (plainD n) ⟨m, []⟩ n.trans.length = enB n m := by
  unfold firesTo enB enTo
  congr 1
  refine List.filter_congr fun t ht => ?_
  have ht := List.mem_range.1 ht
  have h1 := plain_fire n m t ht
  have h2 := h t ht
  rw [h1] at h2
  rw [h1]
  cases hc : canAt n m t with
  | true =>
    rcases fireB_on ht hc with e | e
    · rw [if_pos e]; rfl
    · rw [if_neg (by omega)] at h2
      exact absurd e h2
  | false =>
    have e := fireB_off ht hc
    rw [if_neg (by omega), e]; rfl
theorem own_roomC (w : World) (n : Nat) (hn : n ≤ maxLen) : OwnC (w.alloc (.cells (madeCells #[.int .u8 0] n) 5)) w.heap.size (.slice (some ⟨w.heap.size, 0, none⟩) 0 n) [] :=
  ⟨rfl, .inr ⟨w.heap.size, n, madeCells #[.int .u8 0] n, rfl, Nat.le_refl _, heap_alloc_new w _, Nat.zero_le _, hn, by simp [madeCells], rfl⟩⟩
def RC : ElemR UInt8 := fun _ _ c cs => cs = cellC c
theorem two_sl (w : World) (a b : UInt8) : Sl 1 RC (Lt (w.alloc (.cells #[.int .u8 (a.toNat : Int), .int .u8 (b.toNat : Int)] 5)).heap.size) (w.alloc (.cells #[.int .u8 (a.toNat : Int), .int .u8 (b.toNat : Int)] 5)) (.slice (some ⟨w.heap.size, 0, none⟩) 2 2) [a, b] := by
  refine Sl.ofBlk (xs := [a, b]) (cs := [.int .u8 (a.toNat : Int), .int .u8 (b.toNat : Int)]) (Blk.new w _ _) (by unfold maxLen; simp) fun i x hx => ?_
  match i, hx with
  | 0, hx => injection hx with hx; subst hx; exact ⟨cellC a, rfl, fun j u hu => by
      match j, hu with
      | 0, hu => exact hu
      | j + 1, hu => simp [cellC] at hu, rfl⟩
  | 1, hx => injection hx with hx; subst hx; exact ⟨cellC b, rfl, fun j u hu => by
      match j, hu with
      | 0, hu => exact hu
      | j + 1, hu => simp [cellC] at hu, rfl⟩
  | k + 2, hx => simp at hx
theorem two_sl' {z : Int} (h : 0 ≤ z ∧ z ≤ 100) (w : World) : Sl 1 RC (Lt (w.alloc (.cells #[.int .u8 (z % 256), .int .u8 (z / 256 % 256)] 5)).heap.size) (w.alloc (.cells #[.int .u8 (z % 256), .int .u8 (z / 256 % 256)] 5)) (.slice (some ⟨w.heap.size, 0, none⟩) 2 2) [UInt8.ofNat z.toNat, 0] := by
  have e1 : z % 256 = ((UInt8.ofNat z.toNat).toNat : Int) := by simp; omega
  have e2 : z / 256 % 256 = ((0 : UInt8).toNat : Int) := by simp; omega
  rw [e1, e2]
  exact two_sl w _ _
set_option maxHeartbeats 4000000 in
set_option maxRecDepth 100000 in
theorem spKey_any (m : List Int) (mv : Value) (w : World) (h : SlI (Lt w.heap.size) w mv m) (hm : ∀ z ∈ m, 0 ≤ z ∧ z ≤ 100) (hl : m.length ≤ 1000) :
    Calls Tryz.prog 98 #[mv] w fun e w' => e = .returned (.string ⟨(key2 m).toArray⟩) ∧ Below w.heap.size w w' := by
  obtain ⟨Am, cm, rfl, m1, m2, h⟩ := h.open_
  have HM := Lib.hid hm
  clear hm
  have hmk := run_make_cap (P := Tryz.prog) 91 5 (.int .u8 0) 1 Tryz.underlying91 byteInfo (2 * m.length) (by omega) (by omega) rfl
  have he : ((2 * m.length : Nat) : Int) = 2 * (m.length : Int) := by omega
  rw [he] at hmk
  have hO := own_roomC w (2 * m.length) (by unfold maxLen; omega)
  have hb := bone w (.cells (madeCells #[.int .u8 0] (2 * m.length)) 5)
  have hm1 := h.now hb
  clear he
  go_enter Tryz.func98, Tryz.ntmps98
  go_upto_region 2 with fail
  generalize hw1 : w.alloc (.cells (madeCells #[.int .u8 0] (2 * m.length)) 5) = w1 at *
  clear hw1 hmk
  go_wp2_with fail
  go_loopw [3, 12] (fun bv i wr => ∃ k : Nat, k ≤ m.length ∧ i = .int .i64 k ∧ OwnC wr w.heap.size bv (key2 (m.take k)) ∧ Below w.heap.size w wr) (fun _ i _ => m.length - (intOf i).toNat)
  case atStart => exact ⟨0, Nat.zero_le _, rfl, hO, hb⟩
  case round =>
    obtain ⟨k, hk, rfl, hO, hbr⟩ := hrel
    clear hb
    by_cases hlt : k < m.length
    · obtain ⟨b, o, z, rfl, hD, hx, hf, c0⟩ := (h.now hbr).at_ hlt
      have HN := Lib.hid (key2_snoc hx)
      have HZ := Lib.hid (HM.out z (List.mem_of_getElem? hx))
      clear hx
      have hL : (key2 (m.take k)).length + [UInt8.ofNat z.toNat, 0].length < 10000000 := by rw [key2_len, List.length_take]; simp; omega
      have htw := two_sl' HZ.out wr
      have hb2 := bone wr (.cells #[.int .u8 (z % 256), .int .u8 (z / 256 % 256)] 5)
      have hO2 := hO.now hb2
      have hbr2 := bthen hbr hb2
      have hsz2 := hbr2.size
      generalize hLL : key2 (m.take k) = L at *
      go_wp2_with (at_builtin; refine wpList_appendAllW (fc := cellC) (R := RC) appBytes rfl (.tmp 16) (.tmp 22) rfl _ (fun _ => rfl) L u3 rfl hO2 _ [UInt8.ofNat z.toNat, 0] rfl htw (fun y c h => h) cellC_one hL hsz2 ?_; intro ov w4 hown hgr hat)
      have hb4 : Below w.heap.size w w4 := hbr2.trans (below_of_grown hgr hsz2 (fun g hg => (World.ownsRow.lt hO2 g hg).1))
      go_roundw
      case rel => exact ⟨k + 1, by omega, by go_num, by rw [HN.out]; exact hown, hb4⟩
      case measure => simp [intOf]; omega
    · obtain rfl : k = m.length := by omega
      rw [List.take_of_length_le (Nat.le_refl _)] at hO
      have hcv := OwnC.conv hO
      go_wp2_with fail
      go_ret
      exact ⟨rfl, hbr⟩
def RMk : ElemR St := fun D w s cs => ∃ v, cs = [v] ∧ SlI D w v s.marks
theorem RMk.kept : ElemR.Kept RMk := by
  rintro D D' w w' s cs hd hs ⟨v, rfl, h⟩
  exact ⟨v, rfl, Sl.keep h RInt.kept hd hs⟩
theorem appRows : AppInfo Tryz.prog 102 31 1 := AppInfo.mk' (z := .slice none 0 0) (bytes := 24) Tryz.underlying102 (by kernel_rfl) (by decide) rfl (by decide)
def SpX (base gs gm : Nat) (mv : Value) (b : Nat) : Prop := b < base ∨ b = gs ∨ b = gm ∨ mv.ownBlock = some b
structure SpI (w : World) (base gs gm : Nat) (sv mv : Value) (p : Sp) : Prop where
  st : OwnR 1 RMk (SpX base gs gm mv) w base 31 sv p.states
  mo : OwnM w base mv p.moves
  mp : PosI w gm p.states.length (p.states.map fun s => key2 s.marks)
  bl : Blk w gs 104 #[sv, mv, .bool p.full]
  lo : base ≤ gm
  lo2 : base ≤ gs
section
variable {w w' : World} {base gs gm : Nat} {sv mv : Value} {p : Sp}
theorem SpI.now (h : SpI w base gs gm sv mv p) (hb : Below w.heap.size w w') : SpI w' base gs gm sv mv p := ⟨h.st.now RMk.kept hb, h.mo.now hb, h.mp.now hb, h.bl.now hb, h.lo, h.lo2⟩
theorem SpI.ms (h : SpI w base gs gm sv mv p) : gs ≠ gm := PosP.ne h.mp h.bl
theorem SpI.sgs (h : SpI w base gs gm sv mv p) : sv.ownBlock ≠ some gs := by
  obtain ⟨cs, h1, _⟩ := h.st
  exact own_ne h1 h.bl (by decide)
theorem SpI.mgs (h : SpI w base gs gm sv mv p) : mv.ownBlock ≠ some gs := own_ne h.mo h.bl (by decide)
theorem SpI.apart (h : SpI w base gs gm sv mv p) {g : Nat} (hg : sv.ownBlock = some g) : mv.ownBlock ≠ some g := by
  obtain ⟨cs, h1, _⟩ := h.st
  exact own_apart h1 h.mo (by decide) hg
theorem SpI.smap (h : SpI w base gs gm sv mv p) : sv.ownBlock ≠ some gm := by
  obtain ⟨cs, h1, _⟩ := h.st
  exact own_map_apart h1 h.mp
theorem SpI.mmap (h : SpI w base gs gm sv mv p) : mv.ownBlock ≠ some gm := own_map_apart h.mo h.mp
theorem SpI.off (h : SpI w base gs gm sv mv p) {s : St} {m : Value} (hm : SlI (Fr w.heap.size w') w' m s.marks) : RMk (Off (SpX base gs gm mv) w' sv) w' s [m] := by
  have hd : ∀ b, Fr w.heap.size w' b → Off (SpX base gs gm mv) w' sv b := fun b hb' => by
    refine ⟨hb'.2, fun e => ?_, fun e => ?_⟩
    · have := (h.st.lt b e).2
      have := hb'.1
      omega
    · have h1 := hb'.1
      rcases e with e | e | e | e
      · have := h.bl.lt; have := h.lo2; omega
      · have := h.bl.lt; omega
      · have := h.mp.lt; omega
      · have := (h.mo.lt b e).2; omega
  exact ⟨m, rfl, Sl.keep hm RInt.kept hd (Same.refl _ _)⟩
theorem grown_set (w : World) (p : Addr) (u : Value) : w.grownBy (w.setCell p u) (some p.block) := ⟨rfl, rfl, rfl, by simp, fun i _ hne => Below.heap_setCell w p u i (fun e => hne (by rw [e]))⟩
theorem SpI.cut (h : SpI w base gs gm sv mv p) (hbase : base ≤ w.heap.size) : SpI (w.setCell ⟨gs, 2, none⟩ (.bool false)) base gs gm sv mv ⟨p.states, p.moves, false⟩ ∧ Below base w (w.setCell ⟨gs, 2, none⟩ (.bool false)) := by
  have hg := grown_set w ⟨gs, 2, none⟩ (.bool false)
  refine ⟨⟨h.st.regrown RMk.kept hg (fun g hg => by injection hg with hg; subst hg; exact ⟨.inr (.inl rfl), h.sgs⟩) (fun b hb => .inl hb), h.mo.kept hg (fun g hg => by injection hg with hg; subst hg; exact h.mgs), PosP.grown h.mp hg (fun e => by injection e with e; exact h.ms e.symm), h.bl.set_ 2 (.bool false), h.lo, h.lo2⟩, below_of_grown hg hbase (fun g hg => by injection hg with hg; subst hg; exact h.lo2)⟩
theorem SpI.pushM {mv' : Value} {m : Mv} (h : SpI w base gs gm sv mv p) (hmo : OwnM w' base mv' (p.moves ++ [m])) (hg : w.grownBy w' mv.ownBlock) (hat : mv'.ownBlock = mv.ownBlock ∨ mv'.ownBlock = some (w.heap.size + 1)) (hbase : base ≤ w.heap.size) :
    Blk w' gs 104 #[sv, mv, .bool p.full] ∧ SpI (w'.setCell ⟨gs, 1, none⟩ mv') base gs gm sv mv' ⟨p.states, p.moves ++ [m], p.full⟩ ∧ Below base w (w'.setCell ⟨gs, 1, none⟩ mv') := by
  have hB' : Blk w' gs 104 #[sv, mv, .bool p.full] := h.bl.grown hg (fun e => h.mgs e.symm)
  have hb : Below base w w' := below_of_grown hg hbase (fun g hg => (h.mo.lt g hg).1)
  have hg2 := grown_set w' ⟨gs, 1, none⟩ mv'
  have hst : OwnR 1 RMk (SpX base gs gm mv') w' base 31 sv p.states := by
    refine h.st.regrown RMk.kept hg (fun g hg => ⟨.inr (.inr (.inr hg)), fun e => h.apart e hg⟩) (fun b hb => ?_)
    rcases hb with hb | hb | hb | hb
    · exact .inl (.inl hb)
    · exact .inl (.inr (.inl hb))
    · exact .inl (.inr (.inr (.inl hb)))
    · rcases hat with e | e
      · exact .inl (.inr (.inr (.inr (by rw [← e]; exact hb))))
      · rw [e] at hb
        injection hb with hb
        exact .inr (by omega)
  have hne : mv'.ownBlock ≠ some gs := own_ne hmo hB' (by decide)
  refine ⟨hB', ⟨hst.regrown RMk.kept hg2 (fun g hg => by injection hg with hg; subst hg; exact ⟨.inr (.inl rfl), h.sgs⟩) (fun b hb => .inl hb), hmo.kept hg2 (fun g hg => by injection hg with hg; subst hg; exact hne), ?_, hB'.set_ 1 mv', h.lo, h.lo2⟩, hb.setCell (p := ⟨gs, 1, none⟩) h.lo2 mv'⟩
  exact PosP.grown (PosP.grown h.mp hg (fun e => h.mmap e.symm)) hg2 (fun e => by injection e with e; exact h.ms e.symm)
theorem SpI.putS (h : SpI w base gs gm sv mv p) (hg : w.grownBy w' (some gm)) (hbase : base ≤ w.heap.size) :
    OwnR 1 RMk (SpX base gs gm mv) w' base 31 sv p.states ∧ OwnM w' base mv p.moves ∧ Blk w' gs 104 #[sv, mv, .bool p.full] ∧ Below base w w' :=
  ⟨h.st.regrown RMk.kept hg (fun g hg => by injection hg with hg; subst hg; exact ⟨.inr (.inr (.inl rfl)), h.smap⟩) (fun b hb => .inl hb), h.mo.kept hg (fun g hg => by injection hg with hg; subst hg; exact h.mmap), h.bl.grown hg (fun e => by injection e with e; exact h.ms e), below_of_grown hg hbase (fun g hg => by injection hg with hg; subst hg; exact h.lo)⟩
theorem SpI.pushS {sv' : Value} {s : St} (h1 : OwnR 1 RMk (SpX base gs gm mv) w base 31 sv p.states) (h2 : OwnM w base mv p.moves) (h3 : PosI w gm (p.states.length + 1) (p.states.map (fun s => key2 s.marks) ++ [key2 s.marks])) (hB : Blk w gs 104 #[sv, mv, .bool p.full]) (h4 : base ≤ gm) (h5 : base ≤ gs)
    (hst : OwnR 1 RMk (SpX base gs gm mv) w' base 31 sv' (p.states ++ [s])) (hg : w.grownBy w' sv.ownBlock) (hbase : base ≤ w.heap.size) :
    Blk w' gs 104 #[sv, mv, .bool p.full] ∧ SpI (w'.setCell ⟨gs, 0, none⟩ sv') base gs gm sv' mv ⟨p.states ++ [s], p.moves, p.full⟩ ∧ Below base w (w'.setCell ⟨gs, 0, none⟩ sv') := by
  obtain ⟨cs, ho, _⟩ := h1
  have hms : gs ≠ gm := PosP.ne h3 hB
  have hsm : sv.ownBlock ≠ some gm := own_map_apart ho h3
  have hss : sv.ownBlock ≠ some gs := own_ne ho hB (by decide)
  have hB' : Blk w' gs 104 #[sv, mv, .bool p.full] := hB.grown hg (fun e => hss e.symm)
  have hg2 := grown_set w' ⟨gs, 0, none⟩ sv'
  have hss' : sv'.ownBlock ≠ some gs := by
    obtain ⟨cs', ho', _⟩ := hst
    exact own_ne ho' hB' (by decide)
  have h2' := h2.kept hg (fun g hg => own_apart ho h2 (by decide) hg)
  have hms' : mv.ownBlock ≠ some gs := own_ne h2 hB (by decide)
  refine ⟨hB', ⟨hst.regrown RMk.kept hg2 (fun g hg => by injection hg with hg; subst hg; exact ⟨.inr (.inl rfl), hss'⟩) (fun b hb => .inl hb), h2'.kept hg2 (fun g hg => by injection hg with hg; subst hg; exact hms'), ?_, hB'.set_ 0 sv', h4, h5⟩, (below_of_grown hg hbase (fun g hg => (World.ownsRow.lt ho g hg).1)).setCell (p := ⟨gs, 0, none⟩) h5 sv'⟩
  have := PosP.grown (PosP.grown h3 hg (fun e => hsm e.symm)) hg2 (fun e => by injection e with e; exact hms e.symm)
  show PosP _ _ _ _ _ _ _
  rw [List.length_append, List.map_append]
  exact this
end
theorem marks_sl {D : Nat → Prop} {w : World} {v : Value} {l : List St} (h : Sl 1 RMk D w v l) : SlII D w v (l.map (·.marks)) := by
  obtain ⟨A, c, rfl, h1, h2, h3⟩ := h
  refine ⟨A, c, by rw [List.length_map], by rw [List.length_map]; exact h1, h2, fun i x hx => ?_⟩
  rw [List.getElem?_map, Option.map_eq_some_iff] at hx
  obtain ⟨s, hs, rfl⟩ := hx
  obtain ⟨b, off, cs, q1, q2, q3, ⟨v, q4, q5⟩, q6⟩ := h3 i s hs
  exact ⟨b, off, cs, q1, q2, q3, ⟨v, q4, q5⟩, q6⟩
theorem own_singleM {X : Nat → Prop} {w : World} {base B : Nat} {s : St} {m : Value} (hm : SlI (Fr B w) w m s.marks) (hb : base ≤ w.heap.size) (hX : ∀ b, X b → b < B ∨ w.heap.size ≤ b) :
    OwnR 1 RMk X (w.alloc (.cells #[m] 31)) base 31 (.slice (some ⟨w.heap.size, 0, none⟩) 1 1) [s] := by
  have h1 := World.ownsRow_lit (base := base) (e := 31) (size := 1) w #[m] 1 hb (by unfold maxLen; omega) rfl
  refine ⟨[m], h1, fun i x hx => ?_⟩
  cases i with
  | succ i => simp at hx
  | zero =>
    injection hx with hx
    subst hx
    have hd : ∀ b, Fr B w b → Off X (w.alloc (.cells #[m] 31)) (.slice (some ⟨w.heap.size, 0, none⟩) 1 1) b := fun b hb' => by
      refine ⟨by have := hb'.2; simp; omega, fun e => ?_, fun e => ?_⟩
      · simp only [Value.ownBlock, Option.some.injEq] at e
        have := hb'.2; omega
      · have := hX b e; have := hb'.1; have := hb'.2; omega
    have hs : Same (Fr B w) w (w.alloc (.cells #[m] 31)) := fun b hb' => Below.heap_alloc w _ b hb'.2
    refine ⟨[m], rfl, fun j u hu => ?_, m, rfl, Sl.keep hm RInt.kept hd hs⟩
    simpa using hu
theorem key2_size {m : List Int} (h : m.length ≤ 1000) : (⟨(key2 m).toArray⟩ : ByteArray).size ≤ maxLen := by
  have := key2_len m
  show (key2 m).toArray.size ≤ _
  rw [List.size_toArray]
  unfold maxLen
  omega
def RetSp (p : Sp × Int) (w : World) (e : Ending) (w' : World) : Prop := ∃ sv mv, e = .returned (.tuple #[.agg #[sv, mv, .bool p.1.full], .int .i64 p.2]) ∧ SlII (Lt w'.heap.size) w' sv (p.1.states.map (·.marks)) ∧ SlM (Lt w'.heap.size) w' mv p.1.moves ∧ Below w.heap.size w w'
structure PlS (n : Net) (p : Sp) : Prop where
  vals : ∀ s ∈ p.states, s.vals = []
  ok : ∀ s ∈ p.states, vstateB (plainD n) s = true
  okm : ∀ s ∈ p.states, (validB n && markingB n.places s.marks) = true
  same : p.full = true → ∀ s ∈ p.states, firesTo (plainD n) s n.trans.length = enB n s.marks
theorem PlS.none (n : Net) : PlS n noSp := ⟨fun s h => (by cases h), fun s h => (by cases h), fun s h => (by cases h), fun h => (by cases h)⟩
theorem plS_of {n : Net} (m : List Int) (most : Int) (hv : validB n = true) : PlS n (dexplE (plainD n) ⟨m, []⟩ most).1 := by
  unfold dexplE
  by_cases h1 : vstateB (plainD n) ⟨m, []⟩ = false
  · rw [if_pos h1]; exact PlS.none n
  rw [if_neg h1]
  by_cases h2 : most < 1 ∨ 2000 < most
  · rw [if_pos h2]; exact PlS.none n
  rw [if_neg h2]
  have h1 : vstateB (plainD n) ⟨m, []⟩ = true := by simpa using h1
  have hd : dvalidB (plainD n) = true := by rw [plain_valid]; exact hv
  have hs : stateB (plainD n) ⟨m, []⟩ = true := by
    unfold vstateB at h1
    rw [Bool.and_eq_true] at h1
    exact h1.2
  cases he : exFrom (plainD n) ⟨m, []⟩ most.toNat with
  | none => exact PlS.none n
  | some q =>
    have hI := exFrom_inv hd hs (by omega) he
    have hS := exFrom_shut hd hs (by omega) he
    have hk : ∀ s ∈ q.states, s.vals = [] := fun s hs => vals_nil (hI.ok s hs)
    have ho : ∀ s ∈ q.states, vstateB (plainD n) s = true := fun s hs => by unfold vstateB; rw [hd, hI.ok s hs]; rfl
    refine ⟨hk, ho, fun s hs => ?_, fun hf s hs => ?_⟩
    · have := ho s hs
      rw [st_eta (hk s hs), plain_state] at this
      exact this
    · have e := st_eta (hk s hs)
      rw [e]
      refine firesTo_enB fun t ht => ?_
      rw [← e]
      obtain ⟨j, hj, hx⟩ := List.mem_iff_getElem.1 hs
      exact (hS j t s (Or.inl hj) ht (by rw [List.getElem?_eq_getElem hj, hx]) hf).1
end Go.Proofs.YtlmenhjlgmejkaaGreatDoor
