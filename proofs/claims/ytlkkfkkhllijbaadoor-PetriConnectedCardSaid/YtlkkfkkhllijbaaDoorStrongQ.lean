/- Lists that graph.Strong keeps: the members of each class, the counts of edges that lead into it. No program in sight. -/
import Derived.Test.YtlkkfkkhllijbaaDoorStrongP
namespace Go.Proofs.YtlkkfkkhllijbaaDoor

section
variable {cl : Nat → Nat} {es : List (Nat × Nat)} {n : Nat}
theorem map_set {α : Type} {f g : Nat → α} {n i : Nat} (hi : i < n) (h : ∀ j, j < n → j ≠ i → g j = f j) : (List.range n).map g = ((List.range n).map f).set i (g i) := by
  apply List.ext_getElem?
  intro j
  rw [List.getElem?_set]
  by_cases hj : i = j
  · subst hj; simp [hi]
  · rw [if_neg hj]
    by_cases h2 : j < n
    · simp [h2, h j h2 (fun e => hj e.symm)]
    · simp [h2]
theorem map_same {α : Type} {f g : Nat → α} {n : Nat} (h : ∀ j, j < n → g j = f j) : (List.range n).map g = (List.range n).map f :=
  List.map_congr_left fun j hj => h j (List.mem_range.1 hj)
def rowM (cl : Nat → Nat) (k c : Nat) : List Int := (membs cl k c).map fun (x : Nat) => (x : Int)
def rowsM (cl : Nat → Nat) (n k : Nat) : List (List Int) := (List.range n).map (rowM cl k)
theorem rowsM_len (k : Nat) : (rowsM cl n k).length = n := by unfold rowsM; simp
theorem rowsM_get {k c : Nat} (h : c < n) : (rowsM cl n k)[c]? = some (rowM cl k c) := by unfold rowsM; simp [h]
theorem rowsM_zero : rowsM cl n 0 = List.replicate n [] := by
  unfold rowsM rowM membs
  apply List.ext_getElem?
  intro i
  by_cases h : i < n <;> simp [h]
theorem membs_succ (k c : Nat) : membs cl (k + 1) c = if cl k = c then membs cl k c ++ [k] else membs cl k c := by
  unfold membs
  rw [List.range_succ, List.filter_append]
  by_cases h : cl k = c <;> simp [h]
theorem rowM_succ (k c : Nat) : rowM cl (k + 1) c = if cl k = c then rowM cl k c ++ [(k : Int)] else rowM cl k c := by
  unfold rowM
  rw [membs_succ]
  split <;> simp
theorem rowsM_succ {k : Nat} (h : cl k < n) : rowsM cl n (k + 1) = (rowsM cl n k).set (cl k) (rowM cl k (cl k) ++ [(k : Int)]) := by
  unfold rowsM
  have := map_set (f := rowM cl k) (g := rowM cl (k + 1)) h (fun j _ hj => by rw [rowM_succ, if_neg (fun e => hj e.symm)])
  rw [this, rowM_succ, if_pos rfl]
theorem rowM_len (k c : Nat) : (rowM cl k c).length ≤ k := by
  unfold rowM membs
  rw [List.length_map]
  exact Nat.le_trans (List.length_filter_le _ _) (by simp)
theorem membs_pos {N c : Nat} (h : ∃ v, v < N ∧ cl v = c) : ∃ x l, membs cl N c = x :: l := by
  obtain ⟨v, hv, hc⟩ := h
  have := (membs_mem (cl := cl) (N := N) (c := c) (v := v)).2 ⟨hv, hc⟩
  cases e : membs cl N c with
  | nil => rw [e] at this; cases this
  | cons x l => exact ⟨x, l, rfl⟩

/-! ### counts of edges -/
def opens (cl : Nat → Nat) (es : List (Nat × Nat)) (n : Nat) (T : List Bool) : List Int := (List.range n).map (opn cl es T)
theorem opens_len (T : List Bool) : (opens cl es n T).length = n := by unfold opens; simp
theorem opens_get {T : List Bool} {c : Nat} (h : c < n) : (opens cl es n T)[c]? = some (opn cl es T c) := by unfold opens; simp [h]
theorem opens_nil (T : List Bool) : opens cl [] n T = List.replicate n 0 := by
  unfold opens opn
  apply List.ext_getElem?
  intro i
  by_cases h : i < n <;> simp [h]
theorem rep_getD (n c : Nat) : (List.replicate n false).getD c false = false := by
  rw [List.getD_eq_getElem?_getD, List.getElem?_replicate]
  split <;> rfl
theorem opn_snoc (e : Nat × Nat) (c : Nat) : opn cl (es ++ [e]) (List.replicate n false) c = opn cl es (List.replicate n false) c + if cl e.2 = c ∧ cl e.1 ≠ c then 1 else 0 := by
  unfold opn
  rw [List.countP_append, List.countP_singleton, rep_getD]
  by_cases h1 : cl e.2 = c <;> by_cases h2 : cl e.1 = c <;> simp [h1, h2]
theorem opens_snoc {e : Nat × Nat} (h : cl e.2 < n) (hne : cl e.1 ≠ cl e.2) : opens cl (es ++ [e]) n (List.replicate n false) = (opens cl es n (List.replicate n false)).set (cl e.2) (opn cl es (List.replicate n false) (cl e.2) + 1) := by
  unfold opens
  have := map_set (f := opn cl es (List.replicate n false)) (g := opn cl (es ++ [e]) (List.replicate n false)) h (fun j _ hj => by rw [opn_snoc, if_neg (fun h => hj h.1.symm)]; omega)
  rw [this, opn_snoc, if_pos ⟨rfl, hne⟩]
theorem opens_keep {e : Nat × Nat} (hne : cl e.1 = cl e.2) : opens cl (es ++ [e]) n (List.replicate n false) = opens cl es n (List.replicate n false) := by
  unfold opens
  exact map_same fun j _ => by rw [opn_snoc, if_neg (fun h => h.2 (hne.trans h.1))]; omega
theorem take_snoc {es : List (Nat × Nat)} {k : Nat} {e : Nat × Nat} (h : es[k]? = some e) : es.take (k + 1) = es.take k ++ [e] := by
  rw [List.take_add_one, h]; rfl
/-- What is left of the counts behind some edges out of class b. -/
def opnD (cl : Nat → Nat) (es : List (Nat × Nat)) (T : List Bool) (b : Nat) (done : List Nat) (c : Nat) : Int := opn cl es T c - (done.countP fun w => decide (cl w ≠ b) && decide (cl w = c) : Nat)
def opensD (cl : Nat → Nat) (es : List (Nat × Nat)) (n : Nat) (T : List Bool) (b : Nat) (done : List Nat) : List Int := (List.range n).map (opnD cl es T b done)
theorem opensD_len (T : List Bool) (b : Nat) (done : List Nat) : (opensD cl es n T b done).length = n := by unfold opensD; simp
theorem opensD_get {T : List Bool} {b c : Nat} {done : List Nat} (h : c < n) : (opensD cl es n T b done)[c]? = some (opnD cl es T b done c) := by unfold opensD; simp [h]
theorem opensD_nil (T : List Bool) (b : Nat) : opensD cl es n T b [] = opens cl es n T := by
  unfold opensD opens
  exact map_same fun j _ => by unfold opnD; simp
theorem opnD_snoc (T : List Bool) (b : Nat) (done : List Nat) (w c : Nat) : opnD cl es T b (done ++ [w]) c = opnD cl es T b done c - if cl w ≠ b ∧ cl w = c then 1 else 0 := by
  unfold opnD
  rw [List.countP_append, List.countP_singleton]
  by_cases h : cl w ≠ b ∧ cl w = c
  · rw [if_pos h, show (if (decide (cl w ≠ b) && decide (cl w = c)) = true then 1 else 0) = 1 from if_pos (by simpa using h)]
    omega
  · rw [if_neg h, show (if (decide (cl w ≠ b) && decide (cl w = c)) = true then 1 else 0) = 0 from if_neg (by simpa using h)]
    omega
theorem opensD_snoc {T : List Bool} {b : Nat} {done : List Nat} {w : Nat} (h : cl w < n) (hne : cl w ≠ b) : opensD cl es n T b (done ++ [w]) = (opensD cl es n T b done).set (cl w) (opnD cl es T b done (cl w) - 1) := by
  unfold opensD
  have := map_set (f := opnD cl es T b done) (g := opnD cl es T b (done ++ [w])) h (fun j _ hj => by rw [opnD_snoc, if_neg (fun h => hj h.2.symm)]; omega)
  rw [this, opnD_snoc, if_pos ⟨hne, rfl⟩]
theorem opensD_keep {T : List Bool} {b : Nat} {done : List Nat} {w : Nat} (hne : cl w = b) : opensD cl es n T b (done ++ [w]) = opensD cl es n T b done := by
  unfold opensD
  exact map_same fun j _ => by rw [opnD_snoc, if_neg (fun h => h.1 hne)]; omega
theorem opensD_all {N b : Nat} (hN : ∀ e ∈ es, e.1 < N) {T : List Bool} (hb : b < T.length) (hTb : T.getD b false = false) : opensD cl es n T b ((membs cl N b).flatMap (nextE es)) = opens cl es n (T.set b true) := by
  unfold opensD opens
  exact map_same fun j _ => by rw [opn_take hN hb hTb]; rfl
theorem opnD_bound {N b : Nat} (hN : ∀ e ∈ es, e.1 < N) {T : List Bool} (hb : b < T.length) (hTb : T.getD b false = false) {done rest : List Nat} (hd : (membs cl N b).flatMap (nextE es) = done ++ rest) (c : Nat) : 0 ≤ opnD cl es T b done c ∧ opnD cl es T b done c ≤ es.length := by
  have h1 := opn_take hN hb hTb (cl := cl) (c := c)
  have h2 := (opn_bound (cl := cl) (es := es) (T.set b true) c).1
  have h3 := (opn_bound (cl := cl) (es := es) T c).2
  rw [hd, List.countP_append] at h1
  unfold opnD
  omega
/-! ### the count of the classes that are taken -/
theorem count_set {T : List Bool} {b : Nat} (hb : b < T.length) (hTb : T.getD b false = false) : (T.set b true).count true = T.count true + 1 := by
  induction T generalizing b with
  | nil => simp at hb
  | cons x T ih =>
    cases b with
    | zero =>
      have : x = false := hTb
      subst this
      simp
    | succ b =>
      rw [List.set_cons_succ, List.count_cons, List.count_cons, ih (by simpa using hb) (by simpa using hTb)]
      omega
theorem membs_split {l : List Nat} {i v : Nat} (h : l[i]? = some v) (f : Nat → List Nat) : l.flatMap f = (l.take i).flatMap f ++ (f v ++ (l.drop (i + 1)).flatMap f) ∧ (l.take (i + 1)).flatMap f = (l.take i).flatMap f ++ f v := by
  have hi := (List.getElem?_eq_some_iff.1 h).1
  have e1 : l.take (i + 1) = l.take i ++ [v] := by rw [List.take_add_one, h]; rfl
  constructor
  · conv => lhs; rw [← List.take_append_drop (i + 1) l, e1]
    simp [List.append_assoc]
  · rw [e1]; simp
end
end Go.Proofs.YtlkkfkkhllijbaaDoor
