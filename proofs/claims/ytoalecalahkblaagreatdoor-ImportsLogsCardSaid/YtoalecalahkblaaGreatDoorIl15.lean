/- Texts of this seat, merged. -/
import Derived.Test.YtoalecalahkblaaGreatDoorProg
import Derived.Shelf.SlSortCmp.InsertionK
import Derived.Deep.CutRange
import Derived.Shelf.SlSortCmp.KitK
import Derived.Test.YtoalecalahkblaaGreatDoorIl01
set_option linter.all false
set_option linter.all false
namespace Go.Proofs.YtoalecalahkblaaGreatDoor
open Go.RowKit
section
variable {α : Type} (lt : α → α → Bool)
def blks (b : Nat) : Nat → List α → List α
  | 0, L => sortS lt L
  | f + 1, L => if L.length ≤ b then sortS lt L else sortS lt (L.take b) ++ blks b f (L.drop b)
theorem blks_small {b : Nat} {f : Nat} {L : List α} (h : L.length ≤ b) : blks lt b f L = sortS lt L := by
  cases f with
  | zero => rfl
  | succ f => unfold blks; rw [if_pos h]
theorem blks_fuel {b : Nat} (hb : 0 < b) : ∀ (f g : Nat) (L : List α), L.length ≤ f → L.length ≤ g → blks lt b f L = blks lt b g L
  | 0, g, L, h, _ => by
    have : L.length ≤ b := by omega
    rw [blks_small lt this, blks_small lt this]
  | f + 1, 0, L, _, h => by
    have : L.length ≤ b := by omega
    rw [blks_small lt this, blks_small lt this]
  | f + 1, g + 1, L, h, h' => by
    unfold blks
    split
    · rfl
    · rw [blks_fuel hb f g (L.drop b) (by rw [List.length_drop]; omega) (by rw [List.length_drop]; omega)]
def blkRow (b : Nat) (L : List α) : List α := blks lt b L.length L
theorem blkRow_small {b : Nat} {L : List α} (h : L.length ≤ b) : blkRow lt b L = sortS lt L := blks_small lt h
theorem blkRow_step {b : Nat} (hb : 0 < b) {L : List α} (h : b < L.length) : blkRow lt b L = sortS lt (L.take b) ++ blkRow lt b (L.drop b) := by
  unfold blkRow
  obtain ⟨n, hn⟩ : ∃ n, L.length = n + 1 := ⟨L.length - 1, by omega⟩
  rw [hn]
  show (if L.length ≤ b then _ else _) = _
  rw [if_neg (by omega), blks_fuel lt hb n (L.drop b).length (L.drop b) (by rw [List.length_drop]; omega) (Nat.le_refl _)]
theorem blkRow_one {b : Nat} (hb : 0 < b) {L : List α} (h : b ≤ L.length) : blkRow lt b L = sortS lt (L.take b) ++ blkRow lt b (L.drop b) := by
  by_cases e : b < L.length
  · exact blkRow_step lt hb e
  · have e : L.length = b := by omega
    rw [blkRow_small lt (by omega), List.take_of_length_le (by omega), List.drop_of_length_le (by omega), blkRow_small lt (by simp)]
    show _ = _ ++ []
    rw [List.append_nil]
theorem blkRow_append {b : Nat} (hb : 0 < b) : ∀ (k : Nat) (A C : List α), A.length = k * b → blkRow lt b (A ++ C) = blkRow lt b A ++ blkRow lt b C
  | 0, A, C, h => by
    have : A = [] := List.eq_nil_of_length_eq_zero (by omega)
    subst this
    rw [List.nil_append, blkRow_small lt (L := []) (by simp)]; rfl
  | k + 1, A, C, h => by
    have hk : A.length = b + k * b := by rw [h, Nat.succ_mul]; omega
    rw [blkRow_one lt hb (L := A ++ C) (by rw [List.length_append]; omega), blkRow_one lt hb (L := A) (by omega), List.take_append_of_le_length (by omega), List.drop_append_of_le_length (by omega), blkRow_append hb k (A.drop b) C (by rw [List.length_drop]; omega), List.append_assoc]
variable [Inhabited α]
theorem sortS_len (L : List α) : (sortS lt L).length = L.length := (perm_sortS (lt := lt) L).length_eq
theorem blks_len (b : Nat) : ∀ (f : Nat) (L : List α), (blks lt b f L).length = L.length
  | 0, L => sortS_len lt L
  | f + 1, L => by
    unfold blks
    split
    · exact sortS_len lt L
    · rw [List.length_append, sortS_len, blks_len b f, List.length_take, List.length_drop]; omega
theorem blkRow_len (b : Nat) (L : List α) : (blkRow lt b L).length = L.length := blks_len lt b _ L
def midRow (b a : Nat) (L : List α) : List α := blkRow lt (2 * b) (L.take a) ++ blkRow lt b (L.drop a)
theorem midRow_zero (b : Nat) (L : List α) : midRow lt b 0 L = blkRow lt b L := by
  unfold midRow
  rw [List.take_zero, List.drop_zero, blkRow_small lt (L := []) (by simp)]; rfl
theorem midRow_split {b a : Nat} {L : List α} (hb : 0 < b) (h : a + b ≤ L.length) :
    midRow lt b a L = blkRow lt (2 * b) (L.take a) ++ sortS lt ((L.drop a).take b) ++ blkRow lt b (L.drop (a + b)) := by
  unfold midRow
  rw [blkRow_one lt hb (L := L.drop a) (by rw [List.length_drop]; omega), List.drop_drop, List.append_assoc]
theorem midRow_step {lt : α → α → Bool} (hO : Go.Sort.SWO lt) {b a k : Nat} {L : List α} (hb : 0 < b) (ha : a = k * (2 * b)) (h : a + 2 * b ≤ L.length) :
    midRow lt b a L = blkRow lt (2 * b) (L.take a) ++ sortS lt ((L.drop a).take b) ++ sortS lt ((L.drop (a + b)).take b) ++ blkRow lt b (L.drop (a + 2 * b)) ∧
    blkRow lt (2 * b) (L.take a) ++ mg lt (sortS lt ((L.drop a).take b)) (sortS lt ((L.drop (a + b)).take b)) ++ blkRow lt b (L.drop (a + 2 * b)) = midRow lt b (a + 2 * b) L := by
  constructor
  · rw [midRow_split lt hb (by omega), blkRow_one lt hb (L := L.drop (a + b)) (by rw [List.length_drop]; omega), List.drop_drop, show a + b + b = a + 2 * b by omega]
    simp only [List.append_assoc]
  · rw [← sortS_append hO]
    have e : (L.drop a).take b ++ (L.drop (a + b)).take b = (L.drop a).take (2 * b) := by
      rw [← List.drop_drop, show 2 * b = b + b by omega, List.take_add]
    rw [e]
    unfold midRow
    rw [List.take_add, blkRow_append lt (by omega) k (L.take a) _ (by rw [List.length_take]; omega), blkRow_small lt (L := (L.drop a).take (2 * b)) (by rw [List.length_take]; omega)]
theorem midRow_last {lt : α → α → Bool} (hO : Go.Sort.SWO lt) {b a k : Nat} {L : List α} (hb : 0 < b) (ha : a = k * (2 * b)) (h1 : a + b < L.length) (h2 : L.length < a + 2 * b) :
    midRow lt b a L = blkRow lt (2 * b) (L.take a) ++ sortS lt ((L.drop a).take b) ++ sortS lt (L.drop (a + b)) ∧
    blkRow lt (2 * b) (L.take a) ++ mg lt (sortS lt ((L.drop a).take b)) (sortS lt (L.drop (a + b))) = blkRow lt (2 * b) L := by
  constructor
  · rw [midRow_split lt hb (by omega), blkRow_small lt (L := L.drop (a + b)) (by rw [List.length_drop]; omega)]
  · rw [← sortS_append hO]
    have e : (L.drop a).take b ++ L.drop (a + b) = L.drop a := by rw [← List.drop_drop, List.take_append_drop]
    rw [e, ← blkRow_small lt (b := 2 * b) (L := L.drop a) (by rw [List.length_drop]; omega), ← blkRow_append lt (by omega) k (L.take a) _ (by rw [List.length_take]; omega), List.take_append_drop]
theorem midRow_end {b a k : Nat} {L : List α} (hb : 0 < b) (ha : a = k * (2 * b)) (h0 : a ≤ L.length) (h : L.length ≤ a + b) : midRow lt b a L = blkRow lt (2 * b) L := by
  unfold midRow
  rw [blkRow_small lt (b := b) (L := L.drop a) (by rw [List.length_drop]; omega), ← blkRow_small lt (b := 2 * b) (L := L.drop a) (by rw [List.length_drop]; omega), ← blkRow_append lt (by omega) k (L.take a) _ (by rw [List.length_take]; omega), List.take_append_drop]
end
end Go.Proofs.YtoalecalahkblaaGreatDoor

set_option linter.all false
namespace Go.Proofs.YtoalecalahkblaaGreatDoor
open Go.RowKit
section
variable {α : Type} {lt : α → α → Bool}
theorem getLast_take (A : List α) (i : Nat) (hi : 0 < i) (h : i ≤ A.length) : (A.take i).getLast? = A[i - 1]? := by
  rw [List.getLast?_eq_getElem?, List.length_take, List.getElem?_take, if_pos (by omega), show min i A.length - 1 = i - 1 by omega]
theorem head_drop (A : List α) (i : Nat) : (A.drop i).head? = A[i]? := by rw [List.head?_drop]
theorem sm_at (hO : Go.Sort.SWO lt) {X Y : List α} {i j : Nat} (hX : AscM lt X) (hY : AscM lt Y) (hi : i ≤ X.length) (hj : j ≤ Y.length)
    (h1 : ∀ x y, 0 < i → X[i - 1]? = some x → Y[j]? = some y → lt y x = false) (h2 : ∀ x y, 0 < j → Y[j - 1]? = some y → X[i]? = some x → lt y x = true) :
    mg lt X Y = mg lt (X.take i) (Y.take j) ++ mg lt (X.drop i) (Y.drop j) := by
  have h := sm_split hO (X1 := X.take i) (X2 := X.drop i) (Y1 := Y.take j) (Y2 := Y.drop j) (by rw [List.take_append_drop]; exact hX) (by rw [List.take_append_drop]; exact hY)
    (fun x y hx hy => by
      rcases Nat.eq_zero_or_pos i with h0 | h0
      · subst h0; simp at hx
      · rw [getLast_take X i h0 hi] at hx
        rw [head_drop] at hy
        exact h1 x y h0 hx hy)
    (fun x y hy hx => by
      rcases Nat.eq_zero_or_pos j with h0 | h0
      · subst h0; simp at hy
      · rw [getLast_take Y j h0 hj] at hy
        rw [head_drop] at hx
        exact h2 x y h0 hy hx)
  rw [List.take_append_drop, List.take_append_drop] at h
  exact h
theorem sm_first (hO : Go.Sort.SWO lt) {x : α} {Y : List α} {j : Nat} (hY : AscM lt Y) (hj : j ≤ Y.length) (h1 : ∀ y, 0 < j → Y[j - 1]? = some y → lt y x = true) (h2 : ∀ y, Y[j]? = some y → lt y x = false) : mg lt [x] Y = Y.take j ++ x :: Y.drop j := by
  have h := sm_at hO (X := [x]) (i := 0) (by unfold AscM; simp) hY (by simp) hj (fun _ _ h => absurd h (by omega)) (fun z y h0 hy hz => by
    have hz : some x = some z := hz
    injection hz with hz
    rw [← hz]; exact h1 y h0 hy)
  rw [h, List.take_zero, List.drop_zero, mg_nil]
  congr 1
  cases hd : Y.drop j with
  | nil => rw [mg_none]
  | cons y r =>
    have hy : Y[j]? = some y := by rw [← head_drop, hd]; rfl
    rw [mg_cons, if_neg (by rw [h2 y hy]; decide), mg_nil]
theorem sm_second (hO : Go.Sort.SWO lt) {y : α} {X : List α} {i : Nat} (hX : AscM lt X) (hi : i ≤ X.length) (h1 : ∀ x, 0 < i → X[i - 1]? = some x → lt y x = false) (h2 : ∀ x, X[i]? = some x → lt y x = true) : mg lt X [y] = X.take i ++ y :: X.drop i := by
  have h := sm_at hO (Y := [y]) (j := 0) hX (by unfold AscM; simp) hi (by simp) (fun x z h0 hx hz => by
    have hz : some y = some z := hz
    injection hz with hz
    rw [← hz]; exact h1 x h0 hx) (fun _ _ h => absurd h (by omega))
  rw [h, List.take_zero, List.drop_zero, mg_none]
  congr 1
  cases hd : X.drop i with
  | nil => rw [mg_nil]
  | cons x r =>
    have hx : X[i]? = some x := by rw [← head_drop, hd]; rfl
    rw [mg_cons, if_pos (h2 x hx), mg_none]
end
end Go.Proofs.YtoalecalahkblaaGreatDoor

set_option linter.all false
namespace Go.Proofs.YtoalecalahkblaaGreatDoor
open Go.RowKit
section
variable {α : Type} [Inhabited α]
def swapR (d : Array α) (a b : Nat) : Nat → Array α
  | 0 => d
  | n + 1 => Go.Sort.swp (swapR d a b n) (a + n) (b + n)
theorem swapR_size (d : Array α) (a b : Nat) : ∀ n, (swapR d a b n).size = d.size
  | 0 => rfl
  | n + 1 => by show (Go.Sort.swp _ _ _).size = _; rw [Go.Sort.size_swp, swapR_size d a b n]
set_option maxHeartbeats 4000000 in
set_option maxRecDepth 100000 in
theorem swapRange_k (T k : Nat) (hT : 69 = T) (aE : ∀ w, (isAgg T).run Tryz.prog w = .ok true w) (zE : ∀ w, (Go.sizeOf T).run Tryz.prog w = .ok k w) (hk0 : k = 6) (enc : α → List Value) (hk : ∀ x, (enc x).length = k) (h1 : ∀ x, ∀ v ∈ enc x, v.oneCell' = true) (blk off cap a b n : Nat) (d : Array α) (fv : Value) (w : World) (hH : Go.Sort.HoldsK enc k w blk off d) (hblk : blk < w.heap.size) (ha : a + n ≤ d.size) (hb : b + n ≤ d.size) (hsz : d.size < 4611686018427387904) :
    Calls Tryz.prog 214 #[.slice (some ⟨blk, off, none⟩) d.size cap, .int .i64 a, .int .i64 b, .int .i64 n, fv] w fun e w' => e = .returned (.tuple #[]) ∧ ∃ q, w' = Go.Sort.putRowK enc k (Go.Sort.ahead w q) blk off (swapR d a b n) := by
  have HH := Lib.hid hH
  have HK := Lib.hid hk
  have H1 := Lib.hid h1
  have HST : Hid (w = Go.Sort.putRowK enc k (Go.Sort.ahead w 0) blk off (swapR d a b 0)) := Lib.hid (Go.Sort.putRowK_self enc k w blk off d hH).symm
  clear hH hk h1
  have HK0 := Lib.hid hk0
  go_enter Tryz.func214, Tryz.ntmps214
  go_wp2_with fail
  go_loopw [10] (fun iv wr => ∃ (i q : Nat), iv = .int .i64 (i : Int) ∧ i ≤ n ∧ wr = Go.Sort.putRowK enc k (Go.Sort.ahead w q) blk off (swapR d a b i)) (fun iv _ => n - (intOf iv).toNat)
  case atStart => exact ⟨0, 0, rfl, Nat.zero_le _, HST.out⟩
  case round =>
    obtain ⟨i, q, rfl, hi, hwr⟩ := hrel
    have HWR := Lib.hid hwr
    clear hwr
    by_cases hlt : i < n
    · have hsz2 := swapR_size d a b i
      obtain ⟨dk, hdk⟩ : ∃ dk, swapR d a b i = dk := ⟨_, rfl⟩
      have HDK := Lib.hid hdk
      rw [hdk] at HWR hsz2
      obtain ⟨x, hx⟩ : ∃ x, dk[a + i]! = x := ⟨_, rfl⟩
      obtain ⟨y, hy⟩ : ∃ y, dk[b + i]! = y := ⟨_, rfl⟩
      have hHd : Go.Sort.HoldsK enc k wr.drew blk off dk := by
        rw [HWR.out]
        exact Go.Sort.holdsK_putRowK enc k _ blk off d dk (Go.Sort.holdsK_ahead enc k w q blk off d HH.out) hsz2
      have bnd : ∀ z, z < dk.size → z * k + k ≤ dk.size * k := fun z hz => by subst hk0; omega
      have lx : Sem.run Tryz.prog (loadCellsFrom ⟨blk, off + (a + i) * k, none⟩ 0 k #[]) wr.drew = .ok (enc x).toArray wr.drew := by rw [← hx]; exact run_loadCellsFrom_list _ _ _ _ k (HK.out _) (Go.Proofs.HoldsK.cells hHd HK.out (by omega))
      have ly : Sem.run Tryz.prog (loadCellsFrom ⟨blk, off + (b + i) * k, none⟩ 0 k #[]) wr.drew = .ok (enc y).toArray wr.drew := by rw [← hy]; exact run_loadCellsFrom_list _ _ _ _ k (HK.out _) (Go.Proofs.HoldsK.cells hHd HK.out (by omega))
      have s1 : Sem.run Tryz.prog (storeCells ⟨blk, off + (a + i) * k, none⟩ (enc y) 0) wr.drew = .ok () (wr.drew.setCells blk (off + (a + i) * k) (enc y)) := Go.Proofs.stores_of_holds _ hHd ((a + i) * k) _ (by rw [HK.out, Go.Sort.size_flatK]; exact bnd (a + i) (by omega)) (H1.out _)
      have s2 : Sem.run Tryz.prog (storeCells ⟨blk, off + (b + i) * k, none⟩ (enc x) 0) (wr.drew.setCells blk (off + (a + i) * k) (enc y)) = .ok () ((wr.drew.setCells blk (off + (a + i) * k) (enc y)).setCells blk (off + (b + i) * k) (enc x)) :=
        Go.Proofs.stores_of_holds _ (Go.Proofs.holds_setCells_c hHd ((a + i) * k) _ (by rw [HK.out, Go.Sort.size_flatK]; exact bnd (a + i) (by omega))) ((b + i) * k) _ (by rw [HK.out, Go.Sort.size_setMany, Go.Sort.size_flatK]; exact bnd (b + i) (by omega)) (H1.out _)
      have hsX : (enc x).length = k := HK.out _
      have hsY : (enc y).length = k := HK.out _
      have HSW : Hid ((wr.drew.setCells blk (off + (a + i) * k) (enc y)).setCells blk (off + (b + i) * k) (enc x) = Go.Sort.putRowK enc k (Go.Sort.ahead w (q + 1)) blk off (swapR d a b (i + 1))) := Lib.hid (by
        rw [← hx, ← hy, HWR.out]
        show _ = Go.Sort.putRowK enc k (Go.Sort.ahead w (q + 1)) blk off (Go.Sort.swp (swapR d a b i) (a + i) (b + i))
        rw [HDK.out]
        exact Go.Sort.swap_worldK enc k HK.out w q 1 blk off dk (a + i) (b + i) (by omega) (by omega))
      have jz1 : (a : Int) + (i : Int) < (d.size : Int) := by omega
      have jz2 : (b : Int) + (i : Int) < (d.size : Int) := by omega
      have p1 : (0 : Int) ≤ (a : Int) + (i : Int) := by omega
      have p2 : (0 : Int) ≤ (b : Int) + (i : Int) := by omega
      have w1 : IntKind.i64.wrap ((a : Int) + (i : Int)) = (a : Int) + (i : Int) := by rw [IntKind.wrap_i64]; omega
      have w2 : IntKind.i64.wrap ((b : Int) + (i : Int)) = (b : Int) + (i : Int) := by rw [IntKind.wrap_i64]; omega
      have e1 : ((a : Int) + (i : Int)).toNat = a + i := by omega
      have e2 : ((b : Int) + (i : Int)).toNat = b + i := by omega
      obtain ⟨cX, hcX⟩ : ∃ c, enc x = c := ⟨_, rfl⟩
      obtain ⟨cY, hcY⟩ : ∃ c, enc y = c := ⟨_, rfl⟩
      rw [hcX] at lx s2 hsX HSW
      rw [hcY] at ly s1 s2 hsY HSW
      clear hHd bnd hx hy hdk hsz2 hcX hcY
      have mixed : Tryz.prog.follows .mixedOrders = true := by kernel_rfl
      clear hk0
      go_upto_region 3 with fail
      rw [hT]
      go_big_region_o
      all_goals
        go_wp2_with fail
        go_roundw
        case rel => exact ⟨i + 1, q + 1, by go_num, by omega, HSW.out⟩
        case measure => simp [intOf]; omega
    · obtain rfl : i = n := by omega
      go_wp2_with fail
      go_end0
      exact ⟨rfl, q, HWR.out⟩
end
end Go.Proofs.YtoalecalahkblaaGreatDoor

set_option linter.all false
namespace Go.Proofs.YtoalecalahkblaaGreatDoor
open Go.RowKit
section
variable {α : Type} [Inhabited α]
theorem swp_list (A B C : List α) (x y : α) : Go.Sort.swp (A ++ x :: (B ++ y :: C)).toArray A.length (A.length + 1 + B.length) = (A ++ y :: (B ++ x :: C)).toArray := by
  have h1 := at_mid A (B ++ y :: C) x
  have h2 := at_mid (A ++ x :: B) C y
  rw [List.length_append, List.length_cons, List.append_assoc, List.cons_append] at h2
  rw [show A.length + (B.length + 1) = A.length + 1 + B.length by omega] at h2
  unfold Go.Sort.swp
  rw [h1, h2]
  apply Array.ext'
  have e : (A.length + 1 + B.length) = A.length + (B.length + 1) := by omega
  simp only [List.setIfInBounds_toArray, List.toList_toArray]
  rw [List.set_append_right _ _ (Nat.le_refl _), Nat.sub_self, List.set_cons_zero, List.set_append_right _ _ (by omega), e, Nat.add_sub_cancel_left, List.set_cons_succ, List.set_append_right _ _ (Nat.le_refl _), Nat.sub_self, List.set_cons_zero]
theorem snoc_of {X : List α} {n : Nat} (h : X.length = n + 1) : ∃ X' x, X = X' ++ [x] ∧ X'.length = n := by
  have hne : X ≠ [] := by rintro rfl; simp at h
  exact ⟨X.dropLast, X.getLast hne, (List.dropLast_concat_getLast _).symm, by rw [List.length_dropLast]; omega⟩
theorem swapR_list : ∀ (n : Nat) (P X M Y S : List α), X.length = n → Y.length = n → swapR (P ++ X ++ M ++ Y ++ S).toArray P.length (P.length + n + M.length) n = (P ++ Y ++ M ++ X ++ S).toArray
  | 0, P, X, M, Y, S, hX, hY => by
    have e1 : X = [] := List.eq_nil_of_length_eq_zero hX
    have e2 : Y = [] := List.eq_nil_of_length_eq_zero hY
    subst e1 e2
    rfl
  | n + 1, P, X, M, Y, S, hX, hY => by
    obtain ⟨X', x, rfl, hX'⟩ := snoc_of hX
    obtain ⟨Y', y, rfl, hY'⟩ := snoc_of hY
    have ih := swapR_list n P X' ([x] ++ M) Y' ([y] ++ S) hX' hY'
    have e1 : P ++ (X' ++ [x]) ++ M ++ (Y' ++ [y]) ++ S = P ++ X' ++ ([x] ++ M) ++ Y' ++ ([y] ++ S) := by simp
    have e2 : P.length + (n + 1) + M.length = P.length + n + ([x] ++ M).length := by rw [List.length_append, List.length_singleton]; omega
    rw [e1, e2]
    show Go.Sort.swp (swapR _ _ _ n) (P.length + n) (P.length + n + ([x] ++ M).length + n) = _
    rw [ih]
    have h := swp_list (P ++ Y') (M ++ X') S x y
    have e3 : P ++ Y' ++ ([x] ++ M) ++ X' ++ ([y] ++ S) = (P ++ Y') ++ x :: ((M ++ X') ++ y :: S) := by simp
    have e4 : (P ++ Y').length = P.length + n := by rw [List.length_append, hY']
    have e5 : P.length + n + ([x] ++ M).length + n = (P ++ Y').length + 1 + (M ++ X').length := by
      rw [e4, List.length_append, List.length_append, List.length_singleton, hX']; omega
    rw [e3, e5, ← e4, h]
    congr 1
    simp
variable {enc : α → List Value} {k : Nat} {w0 : World} {blk off : Nat} {d0 : Array α}
theorem swapRange_sw (T : Nat) (hT : 69 = T) (aE : ∀ w, (isAgg T).run Tryz.prog w = .ok true w) (zE : ∀ w, (Go.sizeOf T).run Tryz.prog w = .ok k w) (hk0 : k = 6) (R : Go.Proofs.RowK enc k w0 blk off d0) (dk : Array α) (hs : dk.size = d0.size) (cap a b n : Nat) (fv : Value) (W : World)
    (hS : Go.Proofs.SWK enc k w0 blk off dk W) (ha : a + n ≤ d0.size) (hb : b + n ≤ d0.size) (hsz : d0.size < 4611686018427387904) :
    Calls Tryz.prog 214 #[.slice (some ⟨blk, off, none⟩) d0.size cap, .int .i64 a, .int .i64 b, .int .i64 n, fv] W fun e w' => e = .returned (.tuple #[]) ∧ Go.Proofs.SWK enc k w0 blk off (swapR dk a b n) w' := by
  have h := swapRange_k T k hT aE zE hk0 enc R.hk R.h1 blk off cap a b n dk fv W (hS.holds R.hblk R.hH hs) (hS.lt R.hblk) (by omega) (by omega) (by omega)
  rw [hs] at h
  refine h.mono ?_
  rintro e w' ⟨he, q, hw⟩
  refine ⟨he, ?_⟩
  have h2 := hS.on R.hblk q (swapR dk a b n) #[] (by rw [swapR_size])
  have e2 : Go.Proofs.sortWorldK enc k W blk off q (swapR dk a b n) #[] = w' := by
    rw [hw]
    unfold Go.Proofs.sortWorldK
    rw [Go.Sort.grow_empty]
  rw [e2] at h2
  exact h2
set_option maxHeartbeats 2000000 in
set_option maxRecDepth 100000 in
theorem rotate_sw (T : Nat) (hT : 69 = T) (aE : ∀ w, (isAgg T).run Tryz.prog w = .ok true w) (zE : ∀ w, (Go.sizeOf T).run Tryz.prog w = .ok k w) (hk0 : k = 6) (R : Go.Proofs.RowK enc k w0 blk off d0) (cap : Nat) (fv : Value) (W : World) (P X Y S : List α)
    (hN : P.length + X.length + Y.length + S.length = d0.size) (hX : 0 < X.length) (hY : 0 < Y.length) (hS : Go.Proofs.SWK enc k w0 blk off (P ++ X ++ Y ++ S).toArray W) (hsz : d0.size < 4611686018427387904) :
    Calls Tryz.prog 179 #[.slice (some ⟨blk, off, none⟩) d0.size cap, .int .i64 P.length, .int .i64 ((P.length + X.length : Nat) : Int), .int .i64 ((P.length + X.length + Y.length : Nat) : Int), fv] W fun e w' => e = .returned (.tuple #[]) ∧ Go.Proofs.SWK enc k w0 blk off (P ++ Y ++ X ++ S).toArray w' := by
  have HSW := Lib.hid (fun (P' X' M' Y' S' : List α) (W' : World) (n : Nat) (h1 : X'.length = n) (h2 : Y'.length = n) (h3 : P'.length + n + M'.length + n + S'.length = d0.size) (h : Go.Proofs.SWK enc k w0 blk off (P' ++ X' ++ M' ++ Y' ++ S').toArray W') => by
    have h0 := swapRange_sw T hT aE zE hk0 R _ (by simp; omega) cap P'.length (P'.length + n + M'.length) n fv W' h (by omega) (by omega) hsz
    rw [swapR_list n P' X' M' Y' S' h1 h2] at h0
    exact h0)
  have HST := Lib.hid hS
  obtain ⟨N, hNN⟩ : ∃ N, d0.size = N := ⟨_, rfl⟩
  rw [hNN] at HSW hN hsz ⊢
  obtain ⟨a, ha⟩ : ∃ a, P.length = a := ⟨_, rfl⟩
  obtain ⟨m, hm⟩ : ∃ m, P.length + X.length = m := ⟨_, rfl⟩
  obtain ⟨b, hb⟩ : ∃ b, P.length + X.length + Y.length = b := ⟨_, rfl⟩
  rw [hb, hm, ha]
  have hmN : m ≤ N := by omega
  have hbN : b ≤ N := by omega
  have ham : a < m := by omega
  have hmb : m < b := by omega
  have HX : Hid (X.length = m - a) := by show _ = _; omega
  have HY : Hid (Y.length = b - m) := by show _ = _; omega
  have HP : Hid (P.length = a) := ha
  have HNL : Hid (P.length + X.length + Y.length + S.length = N) := hN
  have HRR := Lib.hid R
  clear hS hN ha hm hb hNN hX hY R hk0 zE aE hT T
  go_enter Tryz.func179, Tryz.ntmps179
  go_wp2_with fail
  go_loopw [10, 11] (fun iv jv wr => ∃ (i j : Nat) (P' X' Y' S' : List α), iv = .int .i64 (i : Int) ∧ jv = .int .i64 (j : Int) ∧ 0 < i ∧ 0 < j ∧ i ≤ m ∧ m + j ≤ N ∧ Hid (X'.length = i ∧ Y'.length = j ∧ P'.length + i = m ∧ P'.length + i + j + S'.length = N) ∧ Hid (P ++ Y ++ X ++ S = P' ++ Y' ++ X' ++ S') ∧ Hid (Go.Proofs.SWK enc k w0 blk off (P' ++ X' ++ Y' ++ S').toArray wr)) (fun iv jv _ => (intOf iv).toNat + (intOf jv).toNat)
  case atStart => exact ⟨m - a, b - m, P, X, Y, S, by go_num, by go_num, by omega, by omega, by omega, by omega, Lib.hid ⟨HX.out, HY.out, by have := HP.out; omega, by have := HNL.out; have := HX.out; have := HY.out; omega⟩, Lib.hid rfl, HST⟩
  case round =>
    obtain ⟨i, j, P', X', Y', S', rfl, rfl, hi, hj, him, hjN, HL, HE, HS⟩ := hrel
    obtain ⟨wo, hwo⟩ : ∃ wo, wr = wo := ⟨_, rfl⟩
    rw [hwo] at HS ⊢
    clear hwo
    by_cases hij : i = j
    · subst hij
      have HC := HSW.out P' X' [] Y' S' wo i HL.out.1 HL.out.2.1 (by have := HL.out.2.2.2; simp; omega) (by rw [List.append_nil]; exact HS.out)
      have e1 : (P'.length : Int) = (m : Int) - (i : Int) := by have := HL.out.2.2.1; omega
      have e2 : ((P'.length + i + ([] : List α).length : Nat) : Int) = (m : Int) := by have := HL.out.2.2.1; simp; omega
      rw [e1, e2, List.append_nil] at HC
      have HC := Lib.hid HC
      clear e1 e2
      go_wp2_with fail
      (with_reducible refine HC.out.mono ?_)
      rintro _ w2 ⟨rfl, hs2⟩
      have HS2 := Lib.hid hs2
      clear hs2
      go_wp2_with fail
      go_end0
      rw [HE.out]
      exact ⟨rfl, HS2.out⟩
    · have xij : ((i : Int) != (j : Int)) = true := by simp; omega
      by_cases hgt : j < i
      · obtain ⟨X1, X2, hX12, hX1⟩ : ∃ X1 X2, X' = X1 ++ X2 ∧ X1.length = j := ⟨X'.take j, X'.drop j, (List.take_append_drop j X').symm, by rw [List.length_take]; have := HL.out.1; omega⟩
        have hX2 : X2.length = i - j := by have := HL.out.1; rw [hX12, List.length_append] at this; omega
        have HC := HSW.out P' X1 X2 Y' S' wo j hX1 HL.out.2.1 (by have := HL.out; omega) (by have := HS.out; rw [hX12] at this; simpa using this)
        have e1 : (P'.length : Int) = (m : Int) - (i : Int) := by have := HL.out.2.2.1; omega
        have e2 : ((P'.length + j + X2.length : Nat) : Int) = (m : Int) := by have := HL.out.2.2.1; omega
        rw [e1, e2] at HC
        have HC := Lib.hid HC
        have HX1 := Lib.hid hX1
        have HX2 := Lib.hid hX2
        have HX12 := Lib.hid hX12
        have hgi : (j : Int) < (i : Int) := by omega
        clear e1 e2 hX1 hX2 hX12
        go_wp2_with fail
        (with_reducible refine HC.out.mono ?_)
        rintro _ w2 ⟨rfl, hs2⟩
        have HS2 := Lib.hid hs2
        clear hs2
        go_wp2_with fail
        go_roundw
        case rel =>
          refine ⟨i - j, j, P' ++ Y', X2, X1, S', by go_num, rfl, by omega, by omega, by omega, by omega, Lib.hid ⟨HX2.out, HX1.out, ?_, ?_⟩, Lib.hid ?_, Lib.hid ?_⟩
          · rw [List.length_append]; have := HL.out; omega
          · rw [List.length_append]; have := HL.out; omega
          · show _ = _
            rw [HE.out, HX12.out]; simp
          · exact HS2.out
        case measure => simp [intOf]; omega
      · have hlt : i < j := by omega
        obtain ⟨Y1, Y2, hY12, hY1⟩ : ∃ Y1 Y2, Y' = Y1 ++ Y2 ∧ Y1.length = j - i := ⟨Y'.take (j - i), Y'.drop (j - i), (List.take_append_drop _ Y').symm, by rw [List.length_take]; have := HL.out.2.1; omega⟩
        have hY2 : Y2.length = i := by have := HL.out.2.1; rw [hY12, List.length_append] at this; omega
        have HC := HSW.out P' X' Y1 Y2 S' wo i HL.out.1 hY2 (by have := HL.out; omega) (by have := HS.out; rw [hY12] at this; simpa using this)
        have e1 : (P'.length : Int) = (m : Int) - (i : Int) := by have := HL.out.2.2.1; omega
        have e2 : ((P'.length + i + Y1.length : Nat) : Int) = (m : Int) + (j : Int) - (i : Int) := by have := HL.out.2.2.1; omega
        rw [e1, e2] at HC
        have HC := Lib.hid HC
        have HY1 := Lib.hid hY1
        have HY2 := Lib.hid hY2
        have HY12 := Lib.hid hY12
        have hgi : ¬ (j : Int) < (i : Int) := by omega
        clear e1 e2 hY1 hY2 hY12
        go_wp2_with fail
        (with_reducible refine HC.out.mono ?_)
        rintro _ w2 ⟨rfl, hs2⟩
        have HS2 := Lib.hid hs2
        clear hs2
        go_wp2_with fail
        go_roundw
        case rel =>
          refine ⟨i, j - i, P', Y2, Y1, X' ++ S', rfl, by go_num, by omega, by omega, by omega, by omega, Lib.hid ⟨HY2.out, HY1.out, HL.out.2.2.1, ?_⟩, Lib.hid ?_, Lib.hid ?_⟩
          · rw [List.length_append]; have := HL.out; omega
          · show _ = _
            rw [HE.out, HY12.out]; simp
          · have := HS2.out; simpa using this
        case measure => simp [intOf]; omega
end
end Go.Proofs.YtoalecalahkblaaGreatDoor

set_option linter.all false
namespace Go.Proofs.YtoalecalahkblaaGreatDoor
open Go.RowKit
section
variable {α : Type} [Inhabited α] {enc : α → List Value} {k : Nat} {w0 : World} {blk off : Nat} {d0 : Array α}
theorem drop_consS {L : List α} {j : Nat} {x : α} (h : L[j]? = some x) : L.drop j = x :: L.drop (j + 1) := by
  obtain ⟨hj, he⟩ := List.getElem?_eq_some_iff.1 h
  rw [List.drop_eq_getElem_cons hj, he]
theorem take_snocS {L : List α} {j : Nat} {x : α} (h : L[j]? = some x) : L.take (j + 1) = L.take j ++ [x] := by
  rw [List.take_add_one, h]; rfl
theorem swk_at {L : List α} {i : Nat} {x : α} (hx : L[i]? = some x) : L.toArray[i]! = x := by
  obtain ⟨hi, he⟩ := List.getElem?_eq_some_iff.1 hx
  rw [getElem!_pos _ i (by simpa using hi)]
  simpa using he
set_option maxHeartbeats 4000000 in
set_option maxRecDepth 100000 in
theorem sym_one (T : Nat) (hT : 69 = T) (aE : ∀ w, (isAgg T).run Tryz.prog w = .ok true w) (zE : ∀ w, (Go.sizeOf T).run Tryz.prog w = .ok k w) (hk0 : k = 6) (R : Go.Proofs.RowK enc k w0 blk off d0) (cap : Nat) (gf : Nat) (cf : α → α → Int) (hO : Go.Sort.SWO (Go.Proofs.ltOf cf))
    (eg : ∀ args w, (callFunc gf args).run Tryz.prog w = .ok (.enter gf args) w) (hC : Go.Proofs.CmpLays Tryz.prog gf #[] enc k cf blk off d0.size w0) (W : World) (P Y S : List α) (x : α)
    (hN : P.length + 1 + Y.length + S.length = d0.size) (hY : AscM (Go.Proofs.ltOf cf) Y) (hS : Go.Proofs.SWK enc k w0 blk off (P ++ [x] ++ Y ++ S).toArray W) (hsz : d0.size < 4611686018427387904) :
    Calls Tryz.prog 149 #[.slice (some ⟨blk, off, none⟩) d0.size cap, .int .i64 P.length, .int .i64 ((P.length + 1 : Nat) : Int), .int .i64 ((P.length + 1 + Y.length : Nat) : Int), .func (.func gf) #[] #[]] W fun e w' => e = .returned (.tuple #[]) ∧ Go.Proofs.SWK enc k w0 blk off (P ++ mg (Go.Proofs.ltOf cf) [x] Y ++ S).toArray w' := by
  have HST := Lib.hid hS
  have HR := Lib.hid R
  have HC := Lib.hid hC
  have HY := Lib.hid hY
  have HSZ : Hid ((P ++ [x] ++ Y ++ S).toArray.size = d0.size) := by show _ = _; simp; omega
  obtain ⟨N, hNN⟩ : ∃ N, d0.size = N := ⟨_, rfl⟩
  rw [hNN] at hN hsz HC ⊢
  have HNN := Lib.hid hNN
  obtain ⟨a, ha⟩ : ∃ a, P.length = a := ⟨_, rfl⟩
  obtain ⟨n, hn⟩ : ∃ n, Y.length = n := ⟨_, rfl⟩
  rw [ha, hn] at hN
  rw [ha, hn, show ((a + 1 : Nat) : Int) = (a : Int) + 1 by omega, show ((a + 1 + n : Nat) : Int) = (a : Int) + 1 + (n : Int) by omega]
  have HA := Lib.hid ha
  have HNY := Lib.hid hn
  have haN : a + 1 + n ≤ N := by omega
  have HTL : Hid (∀ o, Op.load 69 o = Op.load T o) := Lib.hid fun o => by rw [hT]
  obtain ⟨TS, hTS⟩ : ∃ TS : TypeId, 36 = TS := ⟨_, rfl⟩
  have HTI : Hid (∀ o v, Op.indexAddr 36 o v = Op.indexAddr TS o v) := Lib.hid fun o v => by rw [hTS]
  have t36 : Tryz.prog.underlying TS = some (.slice T) := by rw [← hTS, ← hT]; exact Tryz.underlying36
  have u36 := run_underlying t36
  have HTS : Hid (∀ o v, Op.store 69 o v = Op.store T o v) := Lib.hid fun o v => by rw [hT]
  have HOO := Lib.hid hO
  clear hS hC hNN ha hn hN hY R hk0 hO hT hTS
  have hone : (((a : Int) + 1 - (a : Int)) == 1) = true := by rw [show (a : Int) + 1 - (a : Int) = 1 by omega]; rfl
  go_enter Tryz.func149, Tryz.ntmps149
  go_wp2_with fail
  go_loopw [10, 11] (fun iv jv wr => ∃ i j : Nat, iv = .int .i64 ((a : Int) + 1 + (i : Int)) ∧ jv = .int .i64 ((a : Int) + 1 + (j : Int)) ∧ i ≤ j ∧ j ≤ n ∧ Hid (∀ y, 0 < i → Y[i - 1]? = some y → Go.Proofs.ltOf cf y x = true) ∧ Hid (∀ y, Y[j]? = some y → Go.Proofs.ltOf cf y x = false) ∧ Hid (Go.Proofs.SWK enc k w0 blk off (P ++ [x] ++ Y ++ S).toArray wr)) (fun iv jv _ => (intOf jv - intOf iv).toNat)
  case atStart => exact ⟨0, n, by go_num, by go_num, Nat.zero_le _, Nat.le_refl _, Lib.hid (fun _ h => absurd h (by omega)), Lib.hid (fun y h => by rw [List.getElem?_eq_none (by have := HNY.out; omega)] at h; cases h), HST⟩
  case round =>
    obtain ⟨i, j, rfl, rfl, hij, hjn, HI, HJ, HS⟩ := hrel
    obtain ⟨wo, hwo⟩ : ∃ wo, wr = wo := ⟨_, rfl⟩
    rw [hwo] at HS ⊢
    clear hwo HST
    by_cases hlt : i < j
    · have x1 : (a : Int) + 1 + (i : Int) < (a : Int) + 1 + (j : Int) := by omega
      go_upto_region 4 with fail
      obtain ⟨h, hh⟩ : ∃ h, (i + j) / 2 = h := ⟨_, rfl⟩
      have hih : i ≤ h := by omega
      have hhj : h < j := by omega
      go_cut [12] from 34 to 39 (fun v W => v = .int .i64 ((a : Int) + 1 + (h : Int)) ∧ wo = W)
      case first =>
        go_wp2_with fail
        go_meet
        exact ⟨by congr 1; omega, rfl⟩
      case rest =>
      obtain ⟨rfl, rfl⟩ := hcut
      obtain ⟨y, hy⟩ : ∃ y, Y[h]? = some y := ⟨_, List.getElem?_eq_getElem (by have := HNY.out; omega)⟩
      have hgx : (P ++ [x] ++ Y ++ S).toArray[a]! = x := swk_at (by rw [← HA.out]; simp)
      have hgy : (P ++ [x] ++ Y ++ S).toArray[a + 1 + h]! = y := swk_at (by
        have hl : h < Y.length := by have := HNY.out; omega
        rw [← HA.out, List.getElem?_append_left (by simp; omega), List.getElem?_append_right (by simp)]
        simp only [List.length_append, List.length_singleton]
        rw [show P.length + 1 + h - (P.length + 1) = h by omega]
        exact hy)
      have HCM := Lib.hid (fun n os => HS.out.cmp HC.out (by rw [HSZ.out, HNN.out]) y x n os)
      have HLX := Lib.hid (fun n os => HS.out.ld HR.out HSZ.out Tryz.prog a (by rw [HSZ.out, HNN.out]; omega) n os)
      have HLY := Lib.hid (fun n os => HS.out.ld HR.out HSZ.out Tryz.prog (a + 1 + h) (by rw [HSZ.out, HNN.out]; omega) n os)
      rw [hgx] at HLX
      rw [hgy] at HLY
      clear hgx hgy
      go_upto_region 5 with fail
      go_cut [50] from 40 to 50 (fun v W => v = .bool (Go.Proofs.ltOf cf y x) ∧ Go.Proofs.SWK enc k w0 blk off (P ++ [x] ++ Y ++ S).toArray W)
      case first =>
        have hcg := HCM.out
        have lx := HLX.out
        have ly := HLY.out
        have nx : (enc x).length = k := HR.out.hk x
        have ny : (enc y).length = k := HR.out.hk y
        have p1 : (0 : Int) ≤ (a : Int) := by omega
        have p2 : (0 : Int) ≤ (a : Int) + 1 + (h : Int) := by omega
        have b1 : (a : Int) < (N : Int) := by omega
        have b2 : (a : Int) + 1 + (h : Int) < (N : Int) := by omega
        have e2 : ((a : Int) + 1 + (h : Int)).toNat = a + 1 + h := by omega
        have mixed : Tryz.prog.follows .mixedOrders = true := by kernel_rfl
        clear HCM HLX HLY
        simp only [HTL.out, HTI.out]
        go_quiet_grown (first | (go_at_fn gf; refine Calls.grown_of (hcg _ _)))
        go_wp2_with fail
        go_meet
        exact ⟨rfl, HS.out.grown nq osq⟩
      case rest =>
      obtain ⟨rfl, hs2⟩ := hcut
      obtain ⟨w2, hw2⟩ : ∃ w2, wc = w2 := ⟨_, rfl⟩
      rw [hw2] at hs2 ⊢
      have HS2 := Lib.hid hs2
      have HYH := Lib.hid hy
      clear hw2 hs2 hy HCM HLX HLY HS
      obtain ⟨q, hq⟩ : ∃ q, Go.Proofs.ltOf cf y x = q := ⟨_, rfl⟩
      rw [hq]
      have HQ := Lib.hid hq
      clear hq
      cases q with
      | true =>
        go_wp2_with fail
        go_roundw
        case rel => exact ⟨h + 1, j, by go_num, rfl, by omega, hjn, Lib.hid (fun y' _ hy' => by rw [Nat.add_sub_cancel, HYH.out] at hy'; injection hy' with hy'; rw [← hy']; exact HQ.out), HJ, HS2⟩
        case measure => simp [intOf]; omega
      | false =>
        go_wp2_with fail
        go_roundw
        case rel => exact ⟨i, h, rfl, by go_num, hih, by omega, HI, Lib.hid (fun y' hy' => by rw [HYH.out] at hy'; injection hy' with hy'; rw [← hy']; exact HQ.out), HS2⟩
        case measure => simp [intOf]; omega
    · have hje : i = j := by omega
      subst hje
      have x1 : ¬ (a : Int) + 1 + (i : Int) < (a : Int) + 1 + (i : Int) := by omega
      have HMG : Hid (mg (Go.Proofs.ltOf cf) [x] Y = Y.take i ++ x :: Y.drop i) := Lib.hid (sm_first HOO.out HY.out (by have := HNY.out; omega) (fun y h0 hy => HI.out y h0 hy) HJ.out)
      have HS0 : Hid (Go.Proofs.SWK enc k w0 blk off (P ++ Y.take 0 ++ [x] ++ Y.drop 0 ++ S).toArray wo) := Lib.hid (by rw [List.take_zero, List.drop_zero, List.append_nil]; exact HS.out)
      clear HI HJ hij hlt
      go_wp2_with fail
      go_loopw [13] (fun kv wr => ∃ t : Nat, kv = .int .i64 ((a : Int) + (t : Int)) ∧ t ≤ i ∧ Hid (Go.Proofs.SWK enc k w0 blk off (P ++ Y.take t ++ [x] ++ Y.drop t ++ S).toArray wr)) (fun kv _ => (((a : Int) + (i : Int)) - intOf kv).toNat)
      case atStart => exact ⟨0, by go_num, Nat.zero_le _, HS0⟩
      case round =>
        obtain ⟨t, rfl, hti, HSt⟩ := hrel
        obtain ⟨wp, hwp⟩ : ∃ wp, wr = wp := ⟨_, rfl⟩
        rw [hwp] at HSt ⊢
        clear hwp HS0 HS
        by_cases htl : t < i
        · obtain ⟨y, hy⟩ : ∃ y, Y[t]? = some y := ⟨_, List.getElem?_eq_getElem (by have := HNY.out; omega)⟩
          have htY : t < Y.length := by have := HNY.out; omega
          have hform : (P ++ Y.take t ++ [x] ++ Y.drop t ++ S) = (P ++ Y.take t) ++ x :: y :: (Y.drop (t + 1) ++ S) := by
            rw [drop_consS hy]; simp
          have hlenA : (P ++ Y.take t).length = a + t := by rw [List.length_append, List.length_take, HA.out]; omega
          have hsz1 : ((P ++ Y.take t) ++ x :: y :: (Y.drop (t + 1) ++ S)).toArray.size = d0.size := by rw [← hform, ← HSZ.out]; simp; omega
          have hs1 := HSt.out
          rw [hform] at hs1
          have hgx : ((P ++ Y.take t) ++ x :: y :: (Y.drop (t + 1) ++ S)).toArray[a + t]! = x := swk_at (by rw [← hlenA]; simp)
          have hgy : ((P ++ Y.take t) ++ x :: y :: (Y.drop (t + 1) ++ S)).toArray[a + t + 1]! = y := swk_at (by rw [← hlenA, List.getElem?_append_right (by omega)]; simp)
          have hb1 : a + t < ((P ++ Y.take t) ++ x :: y :: (Y.drop (t + 1) ++ S)).toArray.size := by rw [hsz1, HNN.out]; omega
          have hb2 : a + t + 1 < ((P ++ Y.take t) ++ x :: y :: (Y.drop (t + 1) ++ S)).toArray.size := by rw [hsz1, HNN.out]; omega
          have S2 := hs1.swapped HR.out (a + t) (a + t + 1) hb1 hb2
          have lx := hs1.ld1 HR.out hsz1 Tryz.prog (a + t) hb1
          have ly := hs1.ld1 HR.out hsz1 Tryz.prog (a + t + 1) hb2
          have s1 := hs1.st1 HR.out hsz1 Tryz.prog (a + t) hb1 y
          have s2 := hs1.st2 HR.out hsz1 Tryz.prog (a + t) (a + t + 1) hb1 hb2 y x
          have hsw : Go.Sort.swp ((P ++ Y.take t) ++ x :: y :: (Y.drop (t + 1) ++ S)).toArray (a + t) (a + t + 1) = (P ++ Y.take (t + 1) ++ [x] ++ Y.drop (t + 1) ++ S).toArray := by
            have h := swp_list (P ++ Y.take t) [] (Y.drop (t + 1) ++ S) x y
            rw [hlenA] at h
            have h : Go.Sort.swp ((P ++ Y.take t) ++ x :: y :: (Y.drop (t + 1) ++ S)).toArray (a + t) (a + t + 1) = _ := h
            rw [h, take_snocS hy]
            simp
          rw [hgx, hgy, hsw] at S2
          rw [hgx] at lx
          rw [hgy] at ly
          have HS2 := Lib.hid S2
          have nx : (enc x).length = k := HR.out.hk x
          have ny : (enc y).length = k := HR.out.hk y
          have p1 : (0 : Int) ≤ (a : Int) + (t : Int) := by omega
          have p2 : (0 : Int) ≤ (a : Int) + (t : Int) + 1 := by omega
          have b1 : (a : Int) + (t : Int) < (N : Int) := by omega
          have b2 : (a : Int) + (t : Int) + 1 < (N : Int) := by omega
          have e1 : ((a : Int) + (t : Int)).toNat = a + t := by omega
          have e2 : ((a : Int) + (t : Int) + 1).toNat = a + t + 1 := by omega
          have c1 : (a : Int) + (t : Int) < (a : Int) + 1 + (i : Int) - 1 := by omega
          obtain ⟨cX, hcX⟩ : ∃ c, enc x = c := ⟨_, rfl⟩
          obtain ⟨cY, hcY⟩ : ∃ c, enc y = c := ⟨_, rfl⟩
          rw [hcX] at lx s2 nx HS2
          rw [hcY] at ly s1 s2 ny HS2
          have mixed : Tryz.prog.follows .mixedOrders = true := by kernel_rfl
          clear hy hform hlenA hsz1 hs1 hgx hgy hb1 hb2 S2 hsw hcX hcY htY HSt
          go_upto_region 11 with fail
          simp only [HTL.out, HTS.out, HTI.out]
          go_big_region_o
          all_goals
            go_wp2_with fail
            go_roundw
            case rel => exact ⟨t + 1, by go_num, by omega, HS2⟩
            case measure => simp [intOf]; omega
        · obtain rfl : t = i := by omega
          have c1 : ¬ (a : Int) + (t : Int) < (a : Int) + 1 + (t : Int) - 1 := by omega
          go_wp2_with fail
          refine bodyPost_ret (v := .tuple #[]) (by simp [results, Tryz.results149, go_sem]) rfl ?_
          rw [HMG.out]
          exact ⟨rfl, by have := HSt.out; simpa using this⟩
end
end Go.Proofs.YtoalecalahkblaaGreatDoor

set_option linter.all false
namespace Go.Proofs.YtoalecalahkblaaGreatDoor
open Go.RowKit
section
variable {α : Type} [Inhabited α] {enc : α → List Value} {k : Nat} {w0 : World} {blk off : Nat} {d0 : Array α}
set_option maxHeartbeats 4000000 in
set_option maxRecDepth 100000 in
theorem sym_last (T : Nat) (hT : 69 = T) (aE : ∀ w, (isAgg T).run Tryz.prog w = .ok true w) (zE : ∀ w, (Go.sizeOf T).run Tryz.prog w = .ok k w) (hk0 : k = 6) (R : Go.Proofs.RowK enc k w0 blk off d0) (cap : Nat) (gf : Nat) (cf : α → α → Int) (hO : Go.Sort.SWO (Go.Proofs.ltOf cf))
    (eg : ∀ args w, (callFunc gf args).run Tryz.prog w = .ok (.enter gf args) w) (hC : Go.Proofs.CmpLays Tryz.prog gf #[] enc k cf blk off d0.size w0) (W : World) (P X S : List α) (y : α)
    (hN : P.length + X.length + 1 + S.length = d0.size) (hX2 : 2 ≤ X.length) (hX : AscM (Go.Proofs.ltOf cf) X) (hS : Go.Proofs.SWK enc k w0 blk off (P ++ X ++ [y] ++ S).toArray W) (hsz : d0.size < 4611686018427387904) :
    Calls Tryz.prog 149 #[.slice (some ⟨blk, off, none⟩) d0.size cap, .int .i64 P.length, .int .i64 ((P.length + X.length : Nat) : Int), .int .i64 ((P.length + X.length + 1 : Nat) : Int), .func (.func gf) #[] #[]] W fun e w' => e = .returned (.tuple #[]) ∧ Go.Proofs.SWK enc k w0 blk off (P ++ mg (Go.Proofs.ltOf cf) X [y] ++ S).toArray w' := by
  have HST := Lib.hid hS
  have HR := Lib.hid R
  have HC := Lib.hid hC
  have HX := Lib.hid hX
  have HSZ : Hid ((P ++ X ++ [y] ++ S).toArray.size = d0.size) := by show _ = _; simp; omega
  obtain ⟨N, hNN⟩ : ∃ N, d0.size = N := ⟨_, rfl⟩
  rw [hNN] at hN hsz HC ⊢
  have HNN := Lib.hid hNN
  obtain ⟨a, ha⟩ : ∃ a, P.length = a := ⟨_, rfl⟩
  obtain ⟨n, hn⟩ : ∃ n, X.length = n := ⟨_, rfl⟩
  rw [ha, hn] at hN
  rw [hn] at hX2
  rw [ha, hn, show ((a + n : Nat) : Int) = (a : Int) + (n : Int) by omega, show ((a + n + 1 : Nat) : Int) = (a : Int) + (n : Int) + 1 by omega]
  have HA := Lib.hid ha
  have HNX := Lib.hid hn
  have haN : a + n + 1 ≤ N := by omega
  have HTL : Hid (∀ o, Op.load 69 o = Op.load T o) := Lib.hid fun o => by rw [hT]
  obtain ⟨TS, hTS⟩ : ∃ TS : TypeId, 36 = TS := ⟨_, rfl⟩
  have HTI : Hid (∀ o v, Op.indexAddr 36 o v = Op.indexAddr TS o v) := Lib.hid fun o v => by rw [hTS]
  have t36 : Tryz.prog.underlying TS = some (.slice T) := by rw [← hTS, ← hT]; exact Tryz.underlying36
  have u36 := run_underlying t36
  have HTS : Hid (∀ o v, Op.store 69 o v = Op.store T o v) := Lib.hid fun o v => by rw [hT]
  have HOO := Lib.hid hO
  clear hS hC hNN ha hn hN hX R hk0 hO hT hTS
  have hone : (((a : Int) + (n : Int) - (a : Int)) == 1) = false := by rw [show (a : Int) + (n : Int) - (a : Int) = (n : Int) by omega]; simp; omega
  have htwo : (((a : Int) + (n : Int) + 1 - ((a : Int) + (n : Int))) == 1) = true := by rw [show (a : Int) + (n : Int) + 1 - ((a : Int) + (n : Int)) = 1 by omega]; rfl
  go_enter Tryz.func149, Tryz.ntmps149
  go_wp2_with fail
  go_loopw [14, 15] (fun iv jv wr => ∃ i j : Nat, iv = .int .i64 ((a : Int) + (i : Int)) ∧ jv = .int .i64 ((a : Int) + (j : Int)) ∧ i ≤ j ∧ j ≤ n ∧ Hid (∀ x, 0 < i → X[i - 1]? = some x → Go.Proofs.ltOf cf y x = false) ∧ Hid (∀ x, X[j]? = some x → Go.Proofs.ltOf cf y x = true) ∧ Hid (Go.Proofs.SWK enc k w0 blk off (P ++ X ++ [y] ++ S).toArray wr)) (fun iv jv _ => (intOf jv - intOf iv).toNat)
  case atStart => exact ⟨0, n, by go_num, rfl, Nat.zero_le _, Nat.le_refl _, Lib.hid (fun _ h => absurd h (by omega)), Lib.hid (fun x h => by rw [List.getElem?_eq_none (by have := HNX.out; omega)] at h; cases h), HST⟩
  case round =>
    obtain ⟨i, j, rfl, rfl, hij, hjn, HI, HJ, HS⟩ := hrel
    obtain ⟨wo, hwo⟩ : ∃ wo, wr = wo := ⟨_, rfl⟩
    rw [hwo] at HS ⊢
    clear hwo HST
    by_cases hlt : i < j
    · have x1 : (a : Int) + (i : Int) < (a : Int) + (j : Int) := by omega
      go_upto_region 16 with fail
      obtain ⟨h, hh⟩ : ∃ h, (i + j) / 2 = h := ⟨_, rfl⟩
      have hih : i ≤ h := by omega
      have hhj : h < j := by omega
      go_cut [16] from 86 to 91 (fun v W => v = .int .i64 ((a : Int) + (h : Int)) ∧ wo = W)
      case first =>
        go_wp2_with fail
        go_meet
        exact ⟨by congr 1; omega, rfl⟩
      case rest =>
      obtain ⟨rfl, rfl⟩ := hcut
      obtain ⟨x, hx⟩ : ∃ x, X[h]? = some x := ⟨_, List.getElem?_eq_getElem (by have := HNX.out; omega)⟩
      have hgx : (P ++ X ++ [y] ++ S).toArray[a + h]! = x := swk_at (by
        have hl : h < X.length := by have := HNX.out; omega
        rw [List.getElem?_append_left (by simp; have := HA.out; omega), List.getElem?_append_left (by simp; have := HA.out; omega), List.getElem?_append_right (by have := HA.out; omega), HA.out, Nat.add_sub_cancel_left]
        exact hx)
      have hgy : (P ++ X ++ [y] ++ S).toArray[a + n]! = y := swk_at (by
        have h1 := HA.out
        have h2 := HNX.out
        rw [List.append_assoc, List.getElem?_append_right (by simp; omega)]
        simp only [List.length_append]
        rw [show a + n - (P.length + X.length) = 0 by omega]
        rfl)
      have HCM := Lib.hid (fun n os => HS.out.cmp HC.out (by rw [HSZ.out, HNN.out]) y x n os)
      have HLX := Lib.hid (fun n os => HS.out.ld HR.out HSZ.out Tryz.prog (a + h) (by rw [HSZ.out, HNN.out]; omega) n os)
      have HLY := Lib.hid (fun n' os => HS.out.ld HR.out HSZ.out Tryz.prog (a + n) (by rw [HSZ.out, HNN.out]; omega) n' os)
      rw [hgx] at HLX
      rw [hgy] at HLY
      clear hgx hgy
      go_upto_region 17 with fail
      go_cut [103] from 92 to 103 (fun v W => v = .bool (!Go.Proofs.ltOf cf y x) ∧ Go.Proofs.SWK enc k w0 blk off (P ++ X ++ [y] ++ S).toArray W)
      case first =>
        have hcg := HCM.out
        have lx := HLX.out
        have ly := HLY.out
        have nx : (enc x).length = k := HR.out.hk x
        have ny : (enc y).length = k := HR.out.hk y
        have p1 : (0 : Int) ≤ (a : Int) + (n : Int) := by omega
        have p2 : (0 : Int) ≤ (a : Int) + (h : Int) := by omega
        have b1 : (a : Int) + (n : Int) < (N : Int) := by omega
        have b2 : (a : Int) + (h : Int) < (N : Int) := by omega
        have e1 : ((a : Int) + (n : Int)).toNat = a + n := by omega
        have e2 : ((a : Int) + (h : Int)).toNat = a + h := by omega
        have mixed : Tryz.prog.follows .mixedOrders = true := by kernel_rfl
        clear HCM HLX HLY
        simp only [HTL.out, HTI.out]
        go_quiet_grown (first | (go_at_fn gf; refine Calls.grown_of (hcg _ _)))
        go_wp2_with fail
        go_meet
        exact ⟨rfl, HS.out.grown nq osq⟩
      case rest =>
      obtain ⟨rfl, hs2⟩ := hcut
      obtain ⟨w2, hw2⟩ : ∃ w2, wc = w2 := ⟨_, rfl⟩
      rw [hw2] at hs2 ⊢
      have HS2 := Lib.hid hs2
      have HXH := Lib.hid hx
      clear hw2 hs2 hx HCM HLX HLY HS
      obtain ⟨q, hq⟩ : ∃ q, Go.Proofs.ltOf cf y x = q := ⟨_, rfl⟩
      rw [hq]
      have HQ := Lib.hid hq
      clear hq
      cases q with
      | false =>
        go_wp2_with fail
        go_roundw
        case rel => exact ⟨h + 1, j, by go_num, rfl, by omega, hjn, Lib.hid (fun x' _ hx' => by rw [Nat.add_sub_cancel, HXH.out] at hx'; injection hx' with hx'; rw [← hx']; exact HQ.out), HJ, HS2⟩
        case measure => simp [intOf]; omega
      | true =>
        go_wp2_with fail
        go_roundw
        case rel => exact ⟨i, h, rfl, by go_num, hih, by omega, HI, Lib.hid (fun x' hx' => by rw [HXH.out] at hx'; injection hx' with hx'; rw [← hx']; exact HQ.out), HS2⟩
        case measure => simp [intOf]; omega
    · have hje : i = j := by omega
      subst hje
      have x1 : ¬ (a : Int) + (i : Int) < (a : Int) + (i : Int) := by omega
      have HMG : Hid (mg (Go.Proofs.ltOf cf) X [y] = X.take i ++ y :: X.drop i) := Lib.hid (sm_second HOO.out HX.out (by have := HNX.out; omega) (fun x h0 hx => HI.out x h0 hx) HJ.out)
      have HS0 : Hid (Go.Proofs.SWK enc k w0 blk off (P ++ X.take n ++ [y] ++ X.drop n ++ S).toArray wo) := Lib.hid (by rw [List.take_of_length_le (by have := HNX.out; omega), List.drop_eq_nil_of_le (by have := HNX.out; omega), List.append_nil]; exact HS.out)
      clear HI HJ hij hlt
      go_wp2_with fail
      go_loopw [17] (fun kv wr => ∃ t : Nat, kv = .int .i64 ((a : Int) + (t : Int)) ∧ i ≤ t ∧ t ≤ n ∧ Hid (Go.Proofs.SWK enc k w0 blk off (P ++ X.take t ++ [y] ++ X.drop t ++ S).toArray wr)) (fun kv _ => (intOf kv - ((a : Int) + (i : Int))).toNat)
      case atStart => exact ⟨n, rfl, hjn, Nat.le_refl _, HS0⟩
      case round =>
        obtain ⟨t, rfl, hti, htn, HSt⟩ := hrel
        obtain ⟨wp, hwp⟩ : ∃ wp, wr = wp := ⟨_, rfl⟩
        rw [hwp] at HSt ⊢
        clear hwp HS0 HS
        by_cases htl : i < t
        · obtain ⟨t, rfl⟩ : ∃ t', t = t' + 1 := ⟨t - 1, by omega⟩
          obtain ⟨x, hx⟩ : ∃ x, X[t]? = some x := ⟨_, List.getElem?_eq_getElem (by have := HNX.out; omega)⟩
          have hform : (P ++ X.take (t + 1) ++ [y] ++ X.drop (t + 1) ++ S) = (P ++ X.take t) ++ x :: y :: (X.drop (t + 1) ++ S) := by
            rw [take_snocS hx]; simp
          have hlenA : (P ++ X.take t).length = a + t := by rw [List.length_append, List.length_take, HA.out]; have := HNX.out; omega
          have hsz1 : ((P ++ X.take t) ++ x :: y :: (X.drop (t + 1) ++ S)).toArray.size = d0.size := by rw [← hform, ← HSZ.out]; simp; have := HNX.out; omega
          have hs1 := HSt.out
          rw [hform] at hs1
          have hgx : ((P ++ X.take t) ++ x :: y :: (X.drop (t + 1) ++ S)).toArray[a + t]! = x := swk_at (by rw [← hlenA]; simp)
          have hgy : ((P ++ X.take t) ++ x :: y :: (X.drop (t + 1) ++ S)).toArray[a + t + 1]! = y := swk_at (by rw [← hlenA, List.getElem?_append_right (by omega)]; simp)
          have hb1 : a + t < ((P ++ X.take t) ++ x :: y :: (X.drop (t + 1) ++ S)).toArray.size := by rw [hsz1, HNN.out]; omega
          have hb2 : a + t + 1 < ((P ++ X.take t) ++ x :: y :: (X.drop (t + 1) ++ S)).toArray.size := by rw [hsz1, HNN.out]; omega
          have S2 := hs1.swapped HR.out (a + t + 1) (a + t) hb2 hb1
          have lx := hs1.ld1 HR.out hsz1 Tryz.prog (a + t) hb1
          have ly := hs1.ld1 HR.out hsz1 Tryz.prog (a + t + 1) hb2
          have s1 := hs1.st1 HR.out hsz1 Tryz.prog (a + t + 1) hb2 x
          have s2 := hs1.st2 HR.out hsz1 Tryz.prog (a + t + 1) (a + t) hb2 hb1 x y
          have hsw : Go.Sort.swp ((P ++ X.take t) ++ x :: y :: (X.drop (t + 1) ++ S)).toArray (a + t + 1) (a + t) = (P ++ X.take t ++ [y] ++ X.drop t ++ S).toArray := by
            have h := swp_adj (P ++ X.take t) (X.drop (t + 1) ++ S) x y
            rw [hlenA] at h
            rw [h, drop_consS hx]
            simp
          rw [hgx, hgy, hsw] at S2
          rw [hgx] at lx
          rw [hgy] at ly
          have HS2 := Lib.hid S2
          have nx : (enc x).length = k := HR.out.hk x
          have ny : (enc y).length = k := HR.out.hk y
          have p1 : (0 : Int) ≤ (a : Int) + (t : Int) := by omega
          have p2 : (0 : Int) ≤ (a : Int) + ((t : Int) + 1) := by omega
          have b1 : (a : Int) + (t : Int) < (N : Int) := by omega
          have b2 : (a : Int) + ((t : Int) + 1) < (N : Int) := by omega
          have e0 : ((a : Int) + ((t : Int) + 1) - 1) = (a : Int) + (t : Int) := by omega
          have e1 : ((a : Int) + (t : Int)).toNat = a + t := by omega
          have e2 : ((a : Int) + ((t : Int) + 1)).toNat = a + t + 1 := by omega
          have c1 : (a : Int) + (i : Int) < (a : Int) + ((t : Int) + 1) := by omega
          obtain ⟨cX, hcX⟩ : ∃ c, enc x = c := ⟨_, rfl⟩
          obtain ⟨cY, hcY⟩ : ∃ c, enc y = c := ⟨_, rfl⟩
          rw [hcX] at lx s1 s2 nx HS2
          rw [hcY] at ly s2 ny HS2
          have mixed : Tryz.prog.follows .mixedOrders = true := by kernel_rfl
          clear hx hform hlenA hsz1 hs1 hgx hgy hb1 hb2 S2 hsw hcX hcY HSt
          rw [show ((t + 1 : Nat) : Int) = (t : Int) + 1 by omega]
          go_upto_region 23 with fail
          simp only [HTL.out, HTS.out, HTI.out]
          go_big_region_o
          all_goals
            go_wp2_with fail
            go_roundw
            case rel => exact ⟨t, by go_num, by omega, by omega, HS2⟩
            case measure => simp [intOf]; omega
        · obtain rfl : t = i := by omega
          have c1 : ¬ (a : Int) + (t : Int) < (a : Int) + (t : Int) := by omega
          go_wp2_with fail
          refine bodyPost_ret (v := .tuple #[]) (by simp [results, Tryz.results149, go_sem]) rfl ?_
          rw [HMG.out]
          exact ⟨rfl, by have := HSt.out; simpa using this⟩
end
end Go.Proofs.YtoalecalahkblaaGreatDoor

set_option linter.all false
namespace Go.Proofs.YtoalecalahkblaaGreatDoor
open Go.RowKit
section
variable {α : Type} [Inhabited α] {enc : α → List Value} {k : Nat} {w0 : World} {blk off : Nat} {d0 : Array α}
theorem mg_if {lt : α → α → Bool} {X Y : List α} (h : X = [] ∨ Y = []) : mg lt X Y = X ++ Y := by
  rcases h with rfl | rfl
  · rw [mg_nil]; rfl
  · rw [mg_none, List.append_nil]
theorem asc_sub {lt : α → α → Bool} {A B : List α} (h : AscM lt B) (hs : A.Sublist B) : AscM lt A := List.Pairwise.sublist hs h
def SymOk (enc : α → List Value) (k : Nat) (w0 : World) (blk off : Nat) (N cap gf : Nat) (lt : α → α → Bool) (n : Nat) : Prop :=
  ∀ (W : World) (P X Y S : List α), X.length + Y.length ≤ n → 0 < X.length → 0 < Y.length → P.length + X.length + Y.length + S.length = N → AscM lt X → AscM lt Y → Go.Proofs.SWK enc k w0 blk off (P ++ X ++ Y ++ S).toArray W →
    Calls Tryz.prog 149 #[.slice (some ⟨blk, off, none⟩) N cap, .int .i64 P.length, .int .i64 ((P.length + X.length : Nat) : Int), .int .i64 ((P.length + X.length + Y.length : Nat) : Int), .func (.func gf) #[] #[]] W fun e w' => e = .returned (.tuple #[]) ∧ Go.Proofs.SWK enc k w0 blk off (P ++ mg lt X Y ++ S).toArray w'
set_option maxHeartbeats 8000000 in
set_option maxRecDepth 100000 in
theorem sym_more (T : Nat) (hT : 69 = T) (aE : ∀ w, (isAgg T).run Tryz.prog w = .ok true w) (zE : ∀ w, (Go.sizeOf T).run Tryz.prog w = .ok k w) (hk0 : k = 6) (R : Go.Proofs.RowK enc k w0 blk off d0) (cap : Nat) (gf : Nat) (cf : α → α → Int) (hO : Go.Sort.SWO (Go.Proofs.ltOf cf))
    (eg : ∀ args w, (callFunc gf args).run Tryz.prog w = .ok (.enter gf args) w) (hC : Go.Proofs.CmpLays Tryz.prog gf #[] enc k cf blk off d0.size w0) (nn : Nat) (IH : SymOk enc k w0 blk off d0.size cap gf (Go.Proofs.ltOf cf) nn) (W : World) (P X Y S : List α)
    (hnn : X.length + Y.length ≤ nn + 1) (hN : P.length + X.length + Y.length + S.length = d0.size) (hX2 : 2 ≤ X.length) (hY2 : 2 ≤ Y.length) (hX : AscM (Go.Proofs.ltOf cf) X) (hY : AscM (Go.Proofs.ltOf cf) Y) (hS : Go.Proofs.SWK enc k w0 blk off (P ++ X ++ Y ++ S).toArray W) (hsz : d0.size < 4611686018427387904) :
    Calls Tryz.prog 149 #[.slice (some ⟨blk, off, none⟩) d0.size cap, .int .i64 P.length, .int .i64 ((P.length + X.length : Nat) : Int), .int .i64 ((P.length + X.length + Y.length : Nat) : Int), .func (.func gf) #[] #[]] W fun e w' => e = .returned (.tuple #[]) ∧ Go.Proofs.SWK enc k w0 blk off (P ++ mg (Go.Proofs.ltOf cf) X Y ++ S).toArray w' := by
  have HROT := Lib.hid (fun (W' : World) (P' X' Y' S' : List α) h1 h2 h3 h4 => rotate_sw T hT aE zE hk0 R cap (.func (.func gf) #[] #[]) W' P' X' Y' S' h1 h2 h3 h4 hsz)
  have HIH := Lib.hid IH
  have HST := Lib.hid hS
  have HR := Lib.hid R
  have HC := Lib.hid hC
  have HX := Lib.hid hX
  have HY := Lib.hid hY
  have HSZ : Hid ((P ++ X ++ Y ++ S).toArray.size = d0.size) := by show _ = _; simp; omega
  obtain ⟨N, hNN⟩ : ∃ N, d0.size = N := ⟨_, rfl⟩
  rw [hNN] at hN hsz HC HROT HIH ⊢
  have HNN := Lib.hid hNN
  obtain ⟨a, ha⟩ : ∃ a, P.length = a := ⟨_, rfl⟩
  obtain ⟨x, hx⟩ : ∃ x, X.length = x := ⟨_, rfl⟩
  obtain ⟨y, hy⟩ : ∃ y, Y.length = y := ⟨_, rfl⟩
  rw [ha, hx, hy] at hN
  rw [hx, hy] at hnn
  rw [hx] at hX2
  rw [hy] at hY2
  rw [ha, hx, hy, show ((a + x : Nat) : Int) = (a : Int) + (x : Int) by omega, show ((a + x + y : Nat) : Int) = (a : Int) + (x : Int) + (y : Int) by omega]
  have HA := Lib.hid ha
  have HNX := Lib.hid hx
  have HNY := Lib.hid hy
  have haN : a + x + y ≤ N := by omega
  have HTL : Hid (∀ o, Op.load 69 o = Op.load T o) := Lib.hid fun o => by rw [hT]
  obtain ⟨TS, hTS⟩ : ∃ TS : TypeId, 36 = TS := ⟨_, rfl⟩
  have HTI : Hid (∀ o v, Op.indexAddr 36 o v = Op.indexAddr TS o v) := Lib.hid fun o v => by rw [hTS]
  have t36 : Tryz.prog.underlying TS = some (.slice T) := by rw [← hTS, ← hT]; exact Tryz.underlying36
  have u36 := run_underlying t36
  have HOO := Lib.hid hO
  obtain ⟨M, hM⟩ : ∃ M, (x + y) / 2 = M := ⟨_, rfl⟩
  have hM1 : 2 * M ≤ x + y := by omega
  have hM2 : x + y ≤ 2 * M + 1 := by omega
  clear hS hC hNN ha hx hy hX hY R hk0 hO hT hTS IH hM
  have hone : (((a : Int) + (x : Int) - (a : Int)) == 1) = false := by rw [show (a : Int) + (x : Int) - (a : Int) = (x : Int) by omega]; simp; omega
  have htwo : (((a : Int) + (x : Int) + (y : Int) - ((a : Int) + (x : Int))) == 1) = false := by rw [show (a : Int) + (x : Int) + (y : Int) - ((a : Int) + (x : Int)) = (y : Int) by omega]; simp; omega
  go_enter Tryz.func149, Tryz.ntmps149
  go_upto_region 24 with fail
  go_cut [18] from 129 to 134 (fun v W' => v = .int .i64 ((a : Int) + (M : Int)) ∧ W = W')
  case first =>
    go_wp2_with fail
    go_meet
    exact ⟨by congr 1; omega, rfl⟩
  case rest =>
  obtain ⟨rfl, rfl⟩ := hcut
  clear hone htwo
  have HLO : Hid (∃ lo hi : Nat, lo ≤ hi ∧ hi ≤ x ∧ hi ≤ M ∧ M ≤ y + lo ∧ (lo = 0 ∨ M = y + lo) ∧ (hi = x ∨ hi = M) ∧ (M < x → lo + y = M ∧ hi = M) ∧ (¬ M < x → lo = 0 ∧ hi = x)) := Lib.hid (by
    by_cases h : M < x
    · by_cases h2 : y ≤ M
      · exact ⟨M - y, M, by omega, by omega, by omega, by omega, by omega, .inr rfl, fun _ => ⟨by omega, rfl⟩, fun h' => absurd h h'⟩
      · exfalso; omega
    · exact ⟨0, x, by omega, by omega, by omega, by omega, .inl rfl, .inl rfl, fun h' => absurd h' h, fun _ => ⟨rfl, rfl⟩⟩)
  obtain ⟨lo, hi, hlh, hhx, hhM, hly, hl0, hh0, hcase1, hcase2⟩ := HLO.out
  have HL0 := Lib.hid hl0
  have HH0 := Lib.hid hh0
  have HC1 := Lib.hid hcase1
  have HC2 := Lib.hid hcase2
  clear hl0 hh0 hcase1 hcase2 HLO
  obtain ⟨q0, hq0⟩ : ∃ q0, decide (M < x) = q0 := ⟨_, rfl⟩
  go_upto_if 140 with fail
  have HQ0 := Lib.hid hq0
  clear hq0
  go_cut [20, 21] from 141 to 146 (fun s r W' => s = .int .i64 ((a : Int) + (lo : Int)) ∧ r = .int .i64 ((a : Int) + (hi : Int)) ∧ W = W')
  case first =>
    cases q0 with
    | false =>
      have hc := HC2.out (by have := of_decide_eq_false HQ0.out; omega)
      obtain ⟨rfl, rfl⟩ := hc
      go_wp2_with fail
      go_meet
      exact ⟨by congr 1 <;> omega, rfl, rfl⟩
    | true =>
      have hc := HC1.out (by have := of_decide_eq_true HQ0.out; omega)
      obtain ⟨h1, rfl⟩ := hc
      go_wp2_with fail
      go_meet
      exact ⟨by congr 1 <;> omega, rfl, rfl⟩
  case rest =>
  obtain ⟨rfl, rfl, rfl⟩ := hcut
  clear HQ0
  obtain ⟨pp, hpp⟩ : ∃ pp, pp + 1 = a + M + (a + x) := ⟨a + M + (a + x) - 1, by omega⟩
  go_upto_region 32 with fail
  go_cut [22] from 147 to 148 (fun v W' => v = .int .i64 (pp : Int) ∧ W = W')
  case first =>
    go_wp2_with fail
    go_meet
    exact ⟨by congr 1; omega, rfl⟩
  case rest =>
  obtain ⟨rfl, rfl⟩ := hcut
  have HPP := Lib.hid hpp
  clear hpp
  go_wp2_with fail
  go_loopw [20, 21] (fun sv rv wr => ∃ i q : Nat, sv = .int .i64 ((a : Int) + (i : Int)) ∧ rv = .int .i64 ((a : Int) + (q : Int)) ∧ lo ≤ i ∧ i ≤ q ∧ q ≤ hi ∧ Hid (∀ u v, 0 < i → X[i - 1]? = some u → Y[M - i]? = some v → Go.Proofs.ltOf cf v u = false) ∧ Hid (∀ u v, 0 < M - q → Y[M - q - 1]? = some v → X[q]? = some u → Go.Proofs.ltOf cf v u = true) ∧ Hid (Go.Proofs.SWK enc k w0 blk off (P ++ X ++ Y ++ S).toArray wr)) (fun sv rv _ => (intOf rv - intOf sv).toNat)
  case atStart =>
    refine ⟨lo, hi, rfl, rfl, Nat.le_refl _, hlh, Nat.le_refl _, Lib.hid (fun u v h0 hu hv => ?_), Lib.hid (fun u v h0 hv hu => ?_), HST⟩
    · rcases HL0.out with h | h
      · omega
      · rw [List.getElem?_eq_none (by have := HNY.out; omega)] at hv; cases hv
    · rcases HH0.out with h | h
      · rw [List.getElem?_eq_none (by have := HNX.out; omega)] at hu; cases hu
      · omega
  case round =>
    obtain ⟨i, q, rfl, rfl, hli, hiq, hqh, HI, HJ, HS⟩ := hrel
    obtain ⟨wo, hwo⟩ : ∃ wo, wr = wo := ⟨_, rfl⟩
    rw [hwo] at HS ⊢
    clear hwo HST
    by_cases hlt : i < q
    · have x1 : (a : Int) + (i : Int) < (a : Int) + (q : Int) := by omega
      go_upto_region 34 with fail
      obtain ⟨h, hh⟩ : ∃ h, (i + q) / 2 = h := ⟨_, rfl⟩
      have hih : i ≤ h := by omega
      have hhq : h < q := by omega
      go_cut [23] from 152 to 157 (fun v W' => v = .int .i64 ((a : Int) + (h : Int)) ∧ wo = W')
      case first =>
        go_wp2_with fail
        go_meet
        exact ⟨by congr 1; omega, rfl⟩
      case rest =>
      obtain ⟨rfl, rfl⟩ := hcut
      obtain ⟨u, hu⟩ : ∃ u, X[h]? = some u := ⟨_, List.getElem?_eq_getElem (by have := HNX.out; omega)⟩
      obtain ⟨v, hv⟩ : ∃ v, Y[M - h - 1]? = some v := ⟨_, List.getElem?_eq_getElem (by have := HNY.out; omega)⟩
      have hgx : (P ++ X ++ Y ++ S).toArray[a + h]! = u := swk_at (by
        have hl : h < X.length := by have := HNX.out; omega
        rw [List.getElem?_append_left (by simp; have := HA.out; omega), List.getElem?_append_left (by simp; have := HA.out; omega), List.getElem?_append_right (by have := HA.out; omega), HA.out, Nat.add_sub_cancel_left]
        exact hu)
      have hgy : (P ++ X ++ Y ++ S).toArray[a + x + (M - h - 1)]! = v := swk_at (by
        have h1 := HA.out
        have h2 := HNX.out
        have h3 := HNY.out
        rw [List.getElem?_append_left (by simp; omega), List.getElem?_append_right (by simp; omega)]
        simp only [List.length_append]
        rw [show a + x + (M - h - 1) - (P.length + X.length) = M - h - 1 by omega]
        exact hv)
      have HCM := Lib.hid (fun n os => HS.out.cmp HC.out (by rw [HSZ.out, HNN.out]) v u n os)
      have HLX := Lib.hid (fun n os => HS.out.ld HR.out HSZ.out Tryz.prog (a + h) (by rw [HSZ.out, HNN.out]; omega) n os)
      have HLY := Lib.hid (fun n os => HS.out.ld HR.out HSZ.out Tryz.prog (a + x + (M - h - 1)) (by rw [HSZ.out, HNN.out]; omega) n os)
      rw [hgx] at HLX
      rw [hgy] at HLY
      clear hgx hgy
      go_upto_region 35 with fail
      go_cut [171] from 158 to 171 (fun b W' => b = .bool (!Go.Proofs.ltOf cf v u) ∧ Go.Proofs.SWK enc k w0 blk off (P ++ X ++ Y ++ S).toArray W')
      case first =>
        have hcg := HCM.out
        have lx := HLX.out
        have ly := HLY.out
        have nx : (enc u).length = k := HR.out.hk u
        have ny : (enc v).length = k := HR.out.hk v
        have p1 : (0 : Int) ≤ (a : Int) + (h : Int) := by omega
        have b1 : (a : Int) + (h : Int) < (N : Int) := by omega
        have e1 : ((a : Int) + (h : Int)).toNat = a + h := by omega
        have hpp := HPP.out
        have p2 : (0 : Int) ≤ (pp : Int) - ((a : Int) + (h : Int)) := by omega
        have b2 : (pp : Int) - ((a : Int) + (h : Int)) < (N : Int) := by omega
        have e2 : ((pp : Int) - ((a : Int) + (h : Int))).toNat = a + x + (M - h - 1) := by omega
        have p3 : (a : Int) + (h : Int) ≤ (pp : Int) := by omega
        have b3 : (pp : Int) < (N : Int) + ((a : Int) + (h : Int)) := by omega
        have b4 : (pp : Int) < (a : Int) + (h : Int) + (N : Int) := by omega
        have wq : IntKind.i64.wrap ((pp : Int) - ((a : Int) + (h : Int))) = (pp : Int) - ((a : Int) + (h : Int)) := by rw [IntKind.wrap_i64]; omega
        clear hpp
        have mixed : Tryz.prog.follows .mixedOrders = true := by kernel_rfl
        clear HCM HLX HLY
        simp only [HTL.out, HTI.out]
        go_quiet_grown (first | (go_at_fn gf; refine Calls.grown_of (hcg _ _)))
        go_wp2_with fail
        go_meet
        exact ⟨rfl, HS.out.grown nq osq⟩
      case rest =>
      obtain ⟨rfl, hs2⟩ := hcut
      obtain ⟨w2, hw2⟩ : ∃ w2, wc = w2 := ⟨_, rfl⟩
      rw [hw2] at hs2 ⊢
      have HS2 := Lib.hid hs2
      have HUH := Lib.hid hu
      have HVH := Lib.hid hv
      clear hw2 hs2 hu hv HCM HLX HLY HS
      obtain ⟨qb, hqb⟩ : ∃ qb, Go.Proofs.ltOf cf v u = qb := ⟨_, rfl⟩
      rw [hqb]
      have HQ := Lib.hid hqb
      clear hqb
      cases qb with
      | false =>
        go_wp2_with fail
        go_roundw
        case rel =>
          refine ⟨h + 1, q, by go_num, rfl, by omega, by omega, hqh, Lib.hid (fun u' v' _ hu' hv' => ?_), HJ, HS2⟩
          rw [Nat.add_sub_cancel, HUH.out] at hu'
          injection hu' with hu'
          rw [show M - (h + 1) = M - h - 1 by omega, HVH.out] at hv'
          injection hv' with hv'
          rw [← hu', ← hv']; exact HQ.out
        case measure => simp [intOf]; omega
      | true =>
        go_wp2_with fail
        go_roundw
        case rel =>
          refine ⟨i, h, rfl, rfl, hli, hih, by omega, HI, Lib.hid (fun u' v' _ hv' hu' => ?_), HS2⟩
          rw [HUH.out] at hu'
          injection hu' with hu'
          rw [HVH.out] at hv'
          injection hv' with hv'
          rw [← hu', ← hv']; exact HQ.out
        case measure => simp [intOf]; omega
    · have hiq2 : i = q := by omega
      subst hiq2
      have x1 : ¬ (a : Int) + (i : Int) < (a : Int) + (i : Int) := by omega
      obtain ⟨j, hj⟩ : ∃ j, M - i = j := ⟨_, rfl⟩
      have hiM : i ≤ M := by omega
      have hix : i ≤ x := by omega
      have hjy : j ≤ y := by omega
      have hMe1 : M ≤ i + j := by omega
      have hMe2 : i + j ≤ M := by omega
      have HMG : Hid (mg (Go.Proofs.ltOf cf) X Y = mg (Go.Proofs.ltOf cf) (X.take i) (Y.take j) ++ mg (Go.Proofs.ltOf cf) (X.drop i) (Y.drop j)) := Lib.hid (sm_at HOO.out HX.out HY.out (by have := HNX.out; omega) (by have := HNY.out; omega) (fun u v h0 hu hv => HI.out u v h0 hu (by rw [hj]; exact hv)) (fun u v h0 hv hu => HJ.out u v (by omega) (by rw [hj]; exact hv) hu))
      have HX1 := Lib.hid (asc_sub HX.out (List.take_sublist i X))
      have HX2 := Lib.hid (asc_sub HX.out (List.drop_sublist i X))
      have HY1 := Lib.hid (asc_sub HY.out (List.take_sublist j Y))
      have HY2 := Lib.hid (asc_sub HY.out (List.drop_sublist j Y))
      have HLX1 : Hid ((X.take i).length = i) := by show _ = _; rw [List.length_take]; have := HNX.out; omega
      have HLX2 : Hid ((X.drop i).length = x - i) := by show _ = _; rw [List.length_drop, HNX.out]
      have HLY1 : Hid ((Y.take j).length = j) := by show _ = _; rw [List.length_take]; have := HNY.out; omega
      have HLY2 : Hid ((Y.drop j).length = y - j) := by show _ = _; rw [List.length_drop, HNY.out]
      have HS0 : Hid (Go.Proofs.SWK enc k w0 blk off (P ++ (X.take i ++ X.drop i) ++ (Y.take j ++ Y.drop j) ++ S).toArray wo) := Lib.hid (by rw [List.take_append_drop, List.take_append_drop]; exact HS.out)
      obtain ⟨X1, hX1⟩ : ∃ X1, X.take i = X1 := ⟨_, rfl⟩
      obtain ⟨X2, hX2'⟩ : ∃ X2, X.drop i = X2 := ⟨_, rfl⟩
      obtain ⟨Y1, hY1⟩ : ∃ Y1, Y.take j = Y1 := ⟨_, rfl⟩
      obtain ⟨Y2, hY2'⟩ : ∃ Y2, Y.drop j = Y2 := ⟨_, rfl⟩
      rw [hX1] at HMG HX1 HLX1 HS0
      rw [hX2'] at HMG HX2 HLX2 HS0
      rw [hY1] at HMG HY1 HLY1 HS0
      rw [hY2'] at HMG HY2 HLY2 HS0
      have HPP2 := HPP
      clear HI HJ HS hX1 hX2' hY1 hY2' hlt hiq hqh hli hj
      go_upto_region 38 with fail
      go_cut [24] from 175 to 177 (fun v W' => v = .int .i64 ((a : Int) + (x : Int) + (j : Int)) ∧ wo = W')
      case first =>
        go_wp2_with fail
        go_meet
        exact ⟨by congr 1; omega, rfl⟩
      case rest =>
      obtain ⟨rfl, rfl⟩ := hcut
      go_upto_region 39 with fail
      go_cut [185] from 178 to 185 (fun b W' => ∃ qb, b = .bool qb ∧ (qb = true ↔ (i < x ∧ 0 < j)) ∧ wo = W')
      case first =>
        by_cases h1 : i < x
        · have h1' : (a : Int) + (i : Int) < (a : Int) + (x : Int) := by omega
          by_cases h2 : 0 < j
          · have h2' : (a : Int) + (x : Int) < (a : Int) + (x : Int) + (j : Int) := by omega
            go_wp2_with fail
            go_meet
            exact ⟨true, by simp [h1, h2], ⟨fun _ => ⟨h1, h2⟩, fun _ => rfl⟩, rfl⟩
          · have h2' : ¬ (a : Int) + (x : Int) < (a : Int) + (x : Int) + (j : Int) := by omega
            go_wp2_with fail
            go_meet
            exact ⟨false, by simp <;> omega, ⟨fun h => Bool.noConfusion h, fun h => absurd h.2 h2⟩, rfl⟩
        · have h1' : ¬ (a : Int) + (i : Int) < (a : Int) + (x : Int) := by omega
          go_wp2_with fail
          go_meet
          exact ⟨false, by simp <;> omega, ⟨fun h => Bool.noConfusion h, fun h => absurd h.1 h1⟩, rfl⟩
      case rest =>
      obtain ⟨qb, rfl, hqb, rfl⟩ := hcut
      have HQB := Lib.hid hqb
      clear hqb
      go_upto_if 185 with fail
      go_cut [] from 186 to 191 (fun W' => Go.Proofs.SWK enc k w0 blk off (P ++ X1 ++ Y1 ++ X2 ++ Y2 ++ S).toArray W')
      case first =>
        cases qb with
        | true =>
          have hq := HQB.out.1 rfl
          have hr := HROT.out wo (P ++ X1) X2 Y1 (Y2 ++ S) (by rw [List.length_append, List.length_append, HA.out, HLX1.out, HLX2.out, HLY1.out, HLY2.out]; omega) (by rw [HLX2.out]; omega) (by rw [HLY1.out]; omega) (by have := HS0.out; simpa using this)
          rw [HLX2.out, HLY1.out, List.length_append, HA.out, HLX1.out, show ((a + i : Nat) : Int) = (a : Int) + (i : Int) by omega, show ((a + i + (x - i) : Nat) : Int) = (a : Int) + (x : Int) by omega, show ((a + i + (x - i) + j : Nat) : Int) = (a : Int) + (x : Int) + (j : Int) by omega] at hr
          have HRT := Lib.hid hr
          clear hr hq
          go_wp2_with fail
          (with_reducible refine HRT.out.mono ?_)
          rintro _ w2 ⟨rfl, hs2⟩
          have HS2 := Lib.hid hs2
          clear hs2
          go_wp2_with fail
          go_meet
          have := HS2.out
          simpa using this
        | false =>
          have hE : X2 = [] ∨ Y1 = [] := by
            by_cases h1 : i < x
            · by_cases h2 : 0 < j
              · have := HQB.out.2 ⟨h1, h2⟩; cases this
              · exact .inr (List.eq_nil_of_length_eq_zero (by rw [HLY1.out]; omega))
            · exact .inl (List.eq_nil_of_length_eq_zero (by rw [HLX2.out]; omega))
          have HS2 : Hid (Go.Proofs.SWK enc k w0 blk off (P ++ X1 ++ Y1 ++ X2 ++ Y2 ++ S).toArray wo) := Lib.hid (by
            have := HS0.out
            rcases hE with rfl | rfl <;> simpa using this)
          clear hE
          go_wp2_with fail
          go_meet
          exact HS2.out
      case rest =>
      have HS1 := Lib.hid hcut
      clear hcut HS0 HROT
      go_upto_region 41 with fail
      go_cut [199] from 192 to 199 (fun b W' => ∃ qb, b = .bool qb ∧ (qb = true ↔ (0 < i ∧ 0 < j)) ∧ wc = W')
      case first =>
        by_cases h1 : 0 < i
        · have h1' : (a : Int) < (a : Int) + (i : Int) := by omega
          by_cases h2 : i < M
          · have h2' : (a : Int) + (i : Int) < (a : Int) + (M : Int) := by omega
            go_wp2_with fail
            go_meet
            exact ⟨true, by simp <;> omega, ⟨fun _ => ⟨h1, by omega⟩, fun _ => rfl⟩, rfl⟩
          · have h2' : ¬ (a : Int) + (i : Int) < (a : Int) + (M : Int) := by omega
            go_wp2_with fail
            go_meet
            exact ⟨false, by simp <;> omega, ⟨fun h => Bool.noConfusion h, fun h => absurd h.2 (by omega)⟩, rfl⟩
        · have h1' : ¬ (a : Int) < (a : Int) + (i : Int) := by omega
          go_wp2_with fail
          go_meet
          exact ⟨false, by simp <;> omega, ⟨fun h => Bool.noConfusion h, fun h => absurd h.1 h1⟩, rfl⟩
      case rest =>
      obtain ⟨qc, rfl, hqc, rfl⟩ := hcut
      have HQC := Lib.hid hqc
      obtain ⟨w3, hw3⟩ : ∃ w3, wc = w3 := ⟨_, rfl⟩
      rw [hw3] at HS1 ⊢
      clear hqc hw3
      go_upto_if 199 with fail
      go_cut [] from 200 to 205 (fun W' => Go.Proofs.SWK enc k w0 blk off (P ++ mg (Go.Proofs.ltOf cf) X1 Y1 ++ X2 ++ Y2 ++ S).toArray W')
      case first =>
        cases qc with
        | true =>
          have hq := HQC.out.1 rfl
          have hr := HIH.out w3 P X1 Y1 (X2 ++ (Y2 ++ S)) (by rw [HLX1.out, HLY1.out]; omega) (by rw [HLX1.out]; omega) (by rw [HLY1.out]; omega) (by rw [List.length_append, List.length_append, HA.out, HLX1.out, HLX2.out, HLY1.out, HLY2.out]; omega) HX1.out HY1.out (by have := HS1.out; simpa using this)
          rw [HA.out, HLX1.out, HLY1.out, show ((a + i : Nat) : Int) = (a : Int) + (i : Int) by omega, show ((a + i + j : Nat) : Int) = (a : Int) + (M : Int) by omega] at hr
          have HRT := Lib.hid hr
          clear hr hq
          go_wp2_with fail
          (with_reducible refine HRT.out.mono ?_)
          rintro _ w4 ⟨rfl, hs2⟩
          have HS2 := Lib.hid hs2
          clear hs2
          go_wp2_with fail
          go_meet
          have := HS2.out
          simpa using this
        | false =>
          have hE : X1 = [] ∨ Y1 = [] := by
            by_cases h1 : 0 < i
            · by_cases h2 : 0 < j
              · have := HQC.out.2 ⟨h1, h2⟩; cases this
              · exact .inr (List.eq_nil_of_length_eq_zero (by rw [HLY1.out]; omega))
            · exact .inl (List.eq_nil_of_length_eq_zero (by rw [HLX1.out]; omega))
          have HS2 : Hid (Go.Proofs.SWK enc k w0 blk off (P ++ mg (Go.Proofs.ltOf cf) X1 Y1 ++ X2 ++ Y2 ++ S).toArray w3) := Lib.hid (by
            rw [mg_if hE]
            have := HS1.out
            simpa using this)
          clear hE
          go_wp2_with fail
          go_meet
          exact HS2.out
      case rest =>
      have HS4 := Lib.hid hcut
      obtain ⟨w5, hw5⟩ : ∃ w5, wc = w5 := ⟨_, rfl⟩
      rw [hw5] at HS4 ⊢
      clear hcut hw5 HS1
      have HEND : Hid (P ++ mg (Go.Proofs.ltOf cf) X Y ++ S = P ++ mg (Go.Proofs.ltOf cf) X1 Y1 ++ mg (Go.Proofs.ltOf cf) X2 Y2 ++ S) := by show _ = _; rw [HMG.out]; simp
      have HLM : Hid ((mg (Go.Proofs.ltOf cf) X1 Y1).length = i + j) := by
        show _ = _
        rw [(mg_perm (Go.Proofs.ltOf cf) _ X1 Y1 rfl).length_eq, List.length_append, HLX1.out, HLY1.out]
      go_upto_region 43 with fail
      go_cut [213] from 206 to 213 (fun b W' => ∃ qb, b = .bool qb ∧ (qb = true ↔ (i < x ∧ j < y)) ∧ w5 = W')
      case first =>
        by_cases h1 : i < x
        · have h1' : (a : Int) + (M : Int) < (a : Int) + (x : Int) + (j : Int) := by omega
          by_cases h2 : j < y
          · have h2' : (a : Int) + (x : Int) + (j : Int) < (a : Int) + (x : Int) + (y : Int) := by omega
            go_wp2_with fail
            go_meet
            exact ⟨true, by simp <;> omega, ⟨fun _ => ⟨h1, h2⟩, fun _ => rfl⟩, rfl⟩
          · have h2' : ¬ (a : Int) + (x : Int) + (j : Int) < (a : Int) + (x : Int) + (y : Int) := by omega
            go_wp2_with fail
            go_meet
            exact ⟨false, by simp <;> omega, ⟨fun h => Bool.noConfusion h, fun h => absurd h.2 h2⟩, rfl⟩
        · have h1' : ¬ (a : Int) + (M : Int) < (a : Int) + (x : Int) + (j : Int) := by omega
          go_wp2_with fail
          go_meet
          exact ⟨false, by simp <;> omega, ⟨fun h => Bool.noConfusion h, fun h => absurd h.1 h1⟩, rfl⟩
      case rest =>
      obtain ⟨qd, rfl, hqd, rfl⟩ := hcut
      have HQD := Lib.hid hqd
      clear hqd
      cases qd with
      | true =>
        have hq := HQD.out.1 rfl
        have hr := HIH.out w5 (P ++ mg (Go.Proofs.ltOf cf) X1 Y1) X2 Y2 S (by rw [HLX2.out, HLY2.out]; omega) (by rw [HLX2.out]; omega) (by rw [HLY2.out]; omega) (by rw [List.length_append, HA.out, HLM.out, HLX2.out, HLY2.out]; omega) HX2.out HY2.out HS4.out
        rw [List.length_append, HA.out, HLM.out, HLX2.out, HLY2.out, show ((a + (i + j) : Nat) : Int) = (a : Int) + (M : Int) by omega, show ((a + (i + j) + (x - i) : Nat) : Int) = (a : Int) + (x : Int) + (j : Int) by omega, show ((a + (i + j) + (x - i) + (y - j) : Nat) : Int) = (a : Int) + (x : Int) + (y : Int) by omega] at hr
        have HRT := Lib.hid hr
        clear hr hq
        go_wp2_with fail
        (with_reducible refine HRT.out.mono ?_)
        rintro _ w6 ⟨rfl, hs2⟩
        have HS2 := Lib.hid hs2
        clear hs2
        go_wp2_with fail
        go_end0
        refine ⟨rfl, ?_⟩
        have h9 := HS2.out
        rw [← HEND.out] at h9
        simpa using h9
      | false =>
        have hE : X2 = [] ∨ Y2 = [] := by
          by_cases h1 : i < x
          · by_cases h2 : j < y
            · have := HQD.out.2 ⟨h1, h2⟩; cases this
            · exact .inr (List.eq_nil_of_length_eq_zero (by rw [HLY2.out]; omega))
          · exact .inl (List.eq_nil_of_length_eq_zero (by rw [HLX2.out]; omega))
        have HS2 : Hid (Go.Proofs.SWK enc k w0 blk off (P ++ mg (Go.Proofs.ltOf cf) X1 Y1 ++ mg (Go.Proofs.ltOf cf) X2 Y2 ++ S).toArray w5) := Lib.hid (by
          rw [mg_if hE]
          have := HS4.out
          simpa using this)
        clear hE
        go_wp2_with fail
        go_end0
        refine ⟨rfl, ?_⟩
        have h9 := HS2.out
        rw [← HEND.out] at h9
        simpa using h9
theorem sym_all (T : Nat) (hT : 69 = T) (aE : ∀ w, (isAgg T).run Tryz.prog w = .ok true w) (zE : ∀ w, (Go.sizeOf T).run Tryz.prog w = .ok k w) (hk0 : k = 6) (R : Go.Proofs.RowK enc k w0 blk off d0) (cap : Nat) (gf : Nat) (cf : α → α → Int) (hO : Go.Sort.SWO (Go.Proofs.ltOf cf))
    (eg : ∀ args w, (callFunc gf args).run Tryz.prog w = .ok (.enter gf args) w) (hC : Go.Proofs.CmpLays Tryz.prog gf #[] enc k cf blk off d0.size w0) (hsz : d0.size < 4611686018427387904) : ∀ n, SymOk enc k w0 blk off d0.size cap gf (Go.Proofs.ltOf cf) n
  | 0 => fun W P X Y S h hX _ _ _ _ _ => absurd h (by omega)
  | n + 1 => fun W P X Y S h hX hY hN hAX hAY hS => by
    by_cases h1 : X.length = 1
    · obtain ⟨x, rfl⟩ : ∃ x, X = [x] := by
        match X, h1 with
        | [x], _ => exact ⟨x, rfl⟩
      exact sym_one T hT aE zE hk0 R cap gf cf hO eg hC W P Y S x (by simpa using hN) hAY hS hsz
    · by_cases h2 : Y.length = 1
      · obtain ⟨y, rfl⟩ : ∃ y, Y = [y] := by
          match Y, h2 with
          | [y], _ => exact ⟨y, rfl⟩
        exact sym_last T hT aE zE hk0 R cap gf cf hO eg hC W P X S y (by simpa using hN) (by omega) hAX hS hsz
      · exact sym_more T hT aE zE hk0 R cap gf cf hO eg hC n (sym_all T hT aE zE hk0 R cap gf cf hO eg hC hsz n) W P X Y S h hN (by omega) (by omega) hAX hAY hS hsz
end
end Go.Proofs.YtoalecalahkblaaGreatDoor

set_option linter.all false
namespace Go.Proofs.YtoalecalahkblaaGreatDoor
open Go.RowKit
section
variable {α : Type} [Inhabited α] {enc : α → List Value} {k : Nat} {w0 : World} {blk off : Nat} {d0 : Array α}
theorem ins_sw (aE : ∀ w, (isAgg 69).run Tryz.prog w = .ok true w) (zE : ∀ w, (Go.sizeOf 69).run Tryz.prog w = .ok k w) (R : Go.Proofs.RowK enc k w0 blk off d0) (cap gf : Nat) (cf : α → α → Int) (hO : Go.Sort.SWO (Go.Proofs.ltOf cf))
    (eg : ∀ args w, (callFunc gf args).run Tryz.prog w = .ok (.enter gf args) w) (hC : ∀ W, Go.Proofs.CmpLays Tryz.prog gf #[] enc k cf blk off d0.size W) (hsz : d0.size < 4611686018427387904) (W : World) (P L S : List α)
    (hN : P.length + L.length + S.length = d0.size) (hS : Go.Proofs.SWK enc k w0 blk off (P ++ L ++ S).toArray W) :
    Calls Tryz.prog 148 #[.slice (some ⟨blk, off, none⟩) d0.size cap, .int .i64 P.length, .int .i64 ((P.length + L.length : Nat) : Int), .func (.func gf) #[] #[]] W fun e w' => e = .returned (.tuple #[]) ∧ Go.Proofs.SWK enc k w0 blk off (P ++ sortS (Go.Proofs.ltOf cf) L ++ S).toArray w' := by
  have hs : (P ++ L ++ S).toArray.size = d0.size := by simp; omega
  have h := Go.Proofs.AnyQ.insertionSortCmpFunc Tryz.insE k aE zE enc R.hk R.h1 cf gf #[] blk off cap P.length (P.length + L.length) (P ++ L ++ S).toArray W eg (by rw [hs]; exact hC W) (hS.holds R.hblk R.hH hs) (hS.lt R.hblk) (by omega) (by rw [hs]; omega) (by rw [hs]; exact hsz)
  rw [insertionSort_list hO, hs] at h
  refine Calls.mono (show Calls Tryz.prog 148 #[.slice (some ⟨blk, off, none⟩) d0.size cap, .int .i64 P.length, .int .i64 ((P.length + L.length : Nat) : Int), .func (.func gf) #[] #[]] W _ from h) ?_
  rintro e w' ⟨he, n, os, hw⟩
  refine ⟨he, ?_⟩
  rw [hw]
  exact hS.on R.hblk n _ os (by simp [(perm_sortS (lt := Go.Proofs.ltOf cf) L).length_eq])
set_option maxHeartbeats 8000000 in
set_option maxRecDepth 100000 in
theorem stable_sw (aE : ∀ w, (isAgg 69).run Tryz.prog w = .ok true w) (zE : ∀ w, (Go.sizeOf 69).run Tryz.prog w = .ok k w) (hk0 : k = 6) (R : Go.Proofs.RowK enc k w0 blk off d0) (cap gf : Nat) (cf : α → α → Int) (hO : Go.Sort.SWO (Go.Proofs.ltOf cf))
    (eg : ∀ args w, (callFunc gf args).run Tryz.prog w = .ok (.enter gf args) w) (hC : ∀ W, Go.Proofs.CmpLays Tryz.prog gf #[] enc k cf blk off d0.size W) (hsz : d0.size < 1152921504606846976) (W : World) (L : List α)
    (hN : L.length = d0.size) (hS : Go.Proofs.SWK enc k w0 blk off L.toArray W) :
    Calls Tryz.prog 104 #[.slice (some ⟨blk, off, none⟩) d0.size cap, .int .i64 d0.size, .func (.func gf) #[] #[]] W fun e w' => e = .returned (.tuple #[]) ∧ Go.Proofs.SWK enc k w0 blk off (sortS (Go.Proofs.ltOf cf) L).toArray w' := by
  have HINS := Lib.hid (fun (W' : World) (P' L' S' : List α) h1 h2 => ins_sw aE zE R cap gf cf hO eg hC (by omega) W' P' L' S' h1 h2)
  have HSYM := Lib.hid (fun n => sym_all 69 rfl aE zE hk0 R cap gf cf hO eg (hC w0) (by omega) n)
  have HST := Lib.hid hS
  have HOO := Lib.hid hO
  obtain ⟨lt, hlt⟩ : ∃ lt, Go.Proofs.ltOf cf = lt := ⟨_, rfl⟩
  rw [hlt] at HINS HSYM HOO ⊢
  obtain ⟨N, hNN⟩ : ∃ N, d0.size = N := ⟨_, rfl⟩
  rw [hNN] at HINS HSYM hN hsz ⊢
  have HN : Hid (L.length = N) := hN
  clear hS hC hNN hN R hk0 hO hlt aE zE eg
  go_enter Tryz.func104, Tryz.ntmps104
  go_wp2_with fail
  go_loopw [7, 8] (fun av bv wr => ∃ t : Nat, av = .int .i64 (t : Int) ∧ bv = .int .i64 ((t : Int) + 20) ∧ t ≤ N ∧ Hid (∃ q, t = q * 20) ∧ Hid (Go.Proofs.SWK enc k w0 blk off (blkRow lt 20 (L.take t) ++ L.drop t).toArray wr)) (fun av _ _ => N - (intOf av).toNat)
  case atStart => exact ⟨0, rfl, rfl, Nat.zero_le _, Lib.hid ⟨0, rfl⟩, Lib.hid (by rw [List.take_zero, blkRow_small lt (L := []) (by simp), List.drop_zero]; exact HST.out)⟩
  case round =>
    obtain ⟨t, rfl, rfl, htN, HT, HS⟩ := hrel
    obtain ⟨wo, hwo⟩ : ∃ wo, wr = wo := ⟨_, rfl⟩
    rw [hwo] at HS ⊢
    clear hwo HST
    by_cases hle : t + 20 ≤ N
    · have x1 : (t : Int) + 20 ≤ (N : Int) := by omega
      have hI := HINS.out wo (blkRow lt 20 (L.take t)) ((L.drop t).take 20) (L.drop (t + 20)) (by rw [blkRow_len, List.length_take, List.length_take, List.length_drop, List.length_drop, HN.out]; omega) (by
        have := HS.out
        rw [List.append_assoc, show L.drop (t + 20) = (L.drop t).drop 20 by rw [List.drop_drop], List.take_append_drop]
        exact this)
      have e1 : (blkRow lt 20 (L.take t)).length = t := by rw [blkRow_len, List.length_take, HN.out]; omega
      have e2 : ((L.drop t).take 20).length = 20 := by rw [List.length_take, List.length_drop, HN.out]; omega
      rw [e1, e2, show ((t + 20 : Nat) : Int) = (t : Int) + 20 by omega] at hI
      have HI := Lib.hid hI
      have HNEW : Hid (blkRow lt 20 (L.take t) ++ sortS lt ((L.drop t).take 20) ++ L.drop (t + 20) = blkRow lt 20 (L.take (t + 20)) ++ L.drop (t + 20)) := by
        show _ = _
        obtain ⟨q, hq⟩ := HT.out
        congr 1
        rw [List.take_add, blkRow_append lt (by omega) q _ _ (by rw [List.length_take, HN.out]; omega), blkRow_small lt (L := (L.drop t).take 20) (by rw [List.length_take]; omega)]
      clear hI e1 e2
      go_wp2_with fail
      (with_reducible refine HI.out.mono ?_)
      rintro _ w2 ⟨rfl, hs2⟩
      have HS2 := Lib.hid hs2
      clear hs2
      go_wp2_with fail
      go_roundw
      case rel => exact ⟨t + 20, by go_num, by go_num, hle, Lib.hid (by obtain ⟨q, hq⟩ := HT.out; exact ⟨q + 1, by omega⟩), Lib.hid (by rw [← HNEW.out]; exact HS2.out)⟩
      case measure => simp [intOf]; omega
    · have x1 : ¬ (t : Int) + 20 ≤ (N : Int) := by omega
      have hI := HINS.out wo (blkRow lt 20 (L.take t)) (L.drop t) [] (by rw [blkRow_len, List.length_take, List.length_drop, HN.out]; simp; omega) (by rw [List.append_nil]; exact HS.out)
      have e1 : (blkRow lt 20 (L.take t)).length = t := by rw [blkRow_len, List.length_take, HN.out]; omega
      have e2 : ((t + (L.drop t).length : Nat) : Int) = (N : Int) := by rw [List.length_drop, HN.out]; omega
      rw [e1, e2, List.append_nil] at hI
      have HI := Lib.hid hI
      have HNEW : Hid (blkRow lt 20 (L.take t) ++ sortS lt (L.drop t) = blkRow lt 20 L) := by
        show _ = _
        obtain ⟨q, hq⟩ := HT.out
        have h1 := blkRow_append lt (b := 20) (by omega) q (L.take t) (L.drop t) (by rw [List.length_take, HN.out]; omega)
        rw [List.take_append_drop] at h1
        rw [h1, blkRow_small lt (L := L.drop t) (by rw [List.length_drop, HN.out]; omega)]
      clear hI e1 e2
      go_wp2_with fail
      (with_reducible refine HI.out.mono ?_)
      rintro _ w2 ⟨rfl, hs2⟩
      have HS2 : Hid (Go.Proofs.SWK enc k w0 blk off (blkRow lt 20 L).toArray w2) := Lib.hid (by rw [← HNEW.out]; exact hs2)
      clear hs2 HI HNEW HS HT hle x1
      go_wp2_with fail
      go_loopw [6] (fun bv wr => ∃ b : Nat, bv = .int .i64 (b : Int) ∧ 0 < b ∧ b < 2 * N + 40 ∧ Hid (Go.Proofs.SWK enc k w0 blk off (blkRow lt b L).toArray wr)) (fun bv _ => N - (intOf bv).toNat)
      case atStart => exact ⟨20, by go_num, by omega, by omega, HS2⟩
      case round =>
        obtain ⟨b, rfl, hb0, hbN, HSb⟩ := hrel
        obtain ⟨w3, hw3⟩ : ∃ w3, wr = w3 := ⟨_, rfl⟩
        rw [hw3] at HSb ⊢
        clear hw3 HS2
        by_cases hbl : b < N
        · have HS0 : Hid (Go.Proofs.SWK enc k w0 blk off (midRow lt b 0 L).toArray w3) := Lib.hid (by rw [midRow_zero]; exact HSb.out)
          clear HSb
          go_wp2_with fail
          go_loopw [7, 8] (fun av cv wr => ∃ c : Nat, av = .int .i64 (c : Int) ∧ cv = .int .i64 ((c : Int) + 2 * (b : Int)) ∧ c ≤ N ∧ Hid (∃ q, c = q * (2 * b)) ∧ Hid (Go.Proofs.SWK enc k w0 blk off (midRow lt b c L).toArray wr)) (fun av _ _ => N - (intOf av).toNat)
          case atStart => exact ⟨0, rfl, by go_num, Nat.zero_le _, Lib.hid ⟨0, by omega⟩, HS0⟩
          case round =>
            obtain ⟨c, rfl, rfl, hcN, HQ, HSc⟩ := hrel
            obtain ⟨w4, hw4⟩ : ∃ w4, wr = w4 := ⟨_, rfl⟩
            rw [hw4] at HSc ⊢
            clear hw4 HS0
            by_cases hc2 : c + 2 * b ≤ N
            · have x1 : (c : Int) + 2 * (b : Int) ≤ (N : Int) := by omega
              have hstep := fun q (hq : c = q * (2 * b)) => midRow_step HOO.out (b := b) (a := c) (k := q) (L := L) hb0 hq (by rw [HN.out]; exact hc2)
              have HSTEP : Hid (midRow lt b c L = blkRow lt (2 * b) (L.take c) ++ sortS lt ((L.drop c).take b) ++ sortS lt ((L.drop (c + b)).take b) ++ blkRow lt b (L.drop (c + 2 * b)) ∧ blkRow lt (2 * b) (L.take c) ++ mg lt (sortS lt ((L.drop c).take b)) (sortS lt ((L.drop (c + b)).take b)) ++ blkRow lt b (L.drop (c + 2 * b)) = midRow lt b (c + 2 * b) L) := by
                obtain ⟨q, hq⟩ := HQ.out
                exact hstep q hq
              have l1 : (blkRow lt (2 * b) (L.take c)).length = c := by rw [blkRow_len, List.length_take, HN.out]; omega
              have l2 : (sortS lt ((L.drop c).take b)).length = b := by rw [sortS_len, List.length_take, List.length_drop, HN.out]; omega
              have l3 : (sortS lt ((L.drop (c + b)).take b)).length = b := by rw [sortS_len, List.length_take, List.length_drop, HN.out]; omega
              have l4 : (blkRow lt b (L.drop (c + 2 * b))).length = N - (c + 2 * b) := by rw [blkRow_len, List.length_drop, HN.out]
              have hy := HSYM.out (2 * b) w4 (blkRow lt (2 * b) (L.take c)) (sortS lt ((L.drop c).take b)) (sortS lt ((L.drop (c + b)).take b)) (blkRow lt b (L.drop (c + 2 * b))) (by omega) (by omega) (by omega) (by omega) (asc_sortS HOO.out _) (asc_sortS HOO.out _) (by have := HSc.out; rw [HSTEP.out.1] at this; exact this)
              rw [l1, l2, l3, show ((c + b : Nat) : Int) = (c : Int) + (b : Int) by omega, show ((c + b + b : Nat) : Int) = (c : Int) + 2 * (b : Int) by omega, HSTEP.out.2] at hy
              have HY := Lib.hid hy
              clear hy l1 l2 l3 l4 hstep
              go_wp2_with fail
              (with_reducible refine HY.out.mono ?_)
              rintro _ w5 ⟨rfl, hs5⟩
              have HS5 := Lib.hid hs5
              clear hs5
              go_wp2_with fail
              go_roundw
              case rel => exact ⟨c + 2 * b, by go_num, by go_num, hc2, Lib.hid (by obtain ⟨q, hq⟩ := HQ.out; exact ⟨q + 1, by rw [Nat.add_mul, Nat.one_mul, ← hq]⟩), HS5⟩
              case measure => simp [intOf]; omega
            · have x1 : ¬ (c : Int) + 2 * (b : Int) ≤ (N : Int) := by omega
              by_cases hm : c + b < N
              · have x2 : (c : Int) + (b : Int) < (N : Int) := by omega
                have hlast := fun q (hq : c = q * (2 * b)) => midRow_last HOO.out (b := b) (a := c) (k := q) (L := L) hb0 hq (by rw [HN.out]; exact hm) (by rw [HN.out]; omega)
                have HLAST : Hid (midRow lt b c L = blkRow lt (2 * b) (L.take c) ++ sortS lt ((L.drop c).take b) ++ sortS lt (L.drop (c + b)) ∧ blkRow lt (2 * b) (L.take c) ++ mg lt (sortS lt ((L.drop c).take b)) (sortS lt (L.drop (c + b))) = blkRow lt (2 * b) L) := by
                  obtain ⟨q, hq⟩ := HQ.out
                  exact hlast q hq
                have l1 : (blkRow lt (2 * b) (L.take c)).length = c := by rw [blkRow_len, List.length_take, HN.out]; omega
                have l2 : (sortS lt ((L.drop c).take b)).length = b := by rw [sortS_len, List.length_take, List.length_drop, HN.out]; omega
                have l3 : (sortS lt (L.drop (c + b))).length = N - (c + b) := by rw [sortS_len, List.length_drop, HN.out]
                have hy := HSYM.out N w4 (blkRow lt (2 * b) (L.take c)) (sortS lt ((L.drop c).take b)) (sortS lt (L.drop (c + b))) [] (by omega) (by omega) (by omega) (by simp; omega) (asc_sortS HOO.out _) (asc_sortS HOO.out _) (by have := HSc.out; rw [HLAST.out.1] at this; simpa using this)
                rw [l1, l2, l3, show ((c + b : Nat) : Int) = (c : Int) + (b : Int) by omega, show ((c + b + (N - (c + b)) : Nat) : Int) = (N : Int) by omega, List.append_nil, HLAST.out.2] at hy
                have HY := Lib.hid hy
                clear hy l1 l2 l3 hlast
                go_wp2_with fail
                (with_reducible refine HY.out.mono ?_)
                rintro _ w5 ⟨rfl, hs5⟩
                have HS5 := Lib.hid hs5
                clear hs5
                go_wp2_with fail
                go_roundw
                case rel => exact ⟨2 * b, by go_num, by omega, by omega, HS5⟩
                case measure => simp [intOf]; omega
              · have x2 : ¬ (c : Int) + (b : Int) < (N : Int) := by omega
                have HEND : Hid (midRow lt b c L = blkRow lt (2 * b) L) := by
                  obtain ⟨q, hq⟩ := HQ.out
                  exact midRow_end lt hb0 hq (by rw [HN.out]; exact hcN) (by rw [HN.out]; omega)
                have HS5 : Hid (Go.Proofs.SWK enc k w0 blk off (blkRow lt (2 * b) L).toArray w4) := Lib.hid (by rw [← HEND.out]; exact HSc.out)
                clear HEND
                go_wp2_with fail
                go_roundw
                case rel => exact ⟨2 * b, by go_num, by omega, by omega, HS5⟩
                case measure => simp [intOf]; omega
        · have x1 : ¬ (b : Int) < (N : Int) := by omega
          have HS5 : Hid (Go.Proofs.SWK enc k w0 blk off (sortS lt L).toArray w3) := Lib.hid (by rw [← blkRow_small lt (b := b) (L := L) (by rw [HN.out]; omega)]; exact HSb.out)
          go_wp2_with fail
          go_end0
          exact ⟨rfl, HS5.out⟩
theorem sortStable_sw (aE : ∀ w, (isAgg 69).run Tryz.prog w = .ok true w) (zE : ∀ w, (Go.sizeOf 69).run Tryz.prog w = .ok k w) (hk0 : k = 6) (R : Go.Proofs.RowK enc k w0 blk off d0) (cap gf : Nat) (cf : α → α → Int) (hO : Go.Sort.SWO (Go.Proofs.ltOf cf))
    (eg : ∀ args w, (callFunc gf args).run Tryz.prog w = .ok (.enter gf args) w) (hC : ∀ W, Go.Proofs.CmpLays Tryz.prog gf #[] enc k cf blk off d0.size W) (hsz : d0.size < 1152921504606846976) (W : World) (L : List α)
    (hN : L.length = d0.size) (hS : Go.Proofs.SWK enc k w0 blk off L.toArray W) :
    Calls Tryz.prog 55 #[.slice (some ⟨blk, off, none⟩) d0.size cap, .func (.func gf) #[] #[]] W fun e w' => e = .returned (.tuple #[]) ∧ Go.Proofs.SWK enc k w0 blk off (sortS (Go.Proofs.ltOf cf) L).toArray w' := by
  have HST := Lib.hid (stable_sw aE zE hk0 R cap gf cf hO eg hC hsz W L hN hS)
  obtain ⟨N, hNN⟩ : ∃ N, d0.size = N := ⟨_, rfl⟩
  rw [hNN] at HST ⊢
  clear R hO hC hsz hN hS hNN
  go_enter Tryz.func55, Tryz.ntmps55
  go_wp2_with fail
  (with_reducible refine HST.out.mono ?_)
  rintro e w1 ⟨rfl, hs⟩
  have HS := Lib.hid hs
  clear hs
  go_wp2_with fail
  go_end0
  exact ⟨rfl, HS.out⟩
end
end Go.Proofs.YtoalecalahkblaaGreatDoor
