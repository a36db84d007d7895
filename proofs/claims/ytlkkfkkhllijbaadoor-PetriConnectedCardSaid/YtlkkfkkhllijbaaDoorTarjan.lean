/- Strong components by depth first search with low links: what the search computes. No program in sight. -/
import Derived.WalkKit
namespace Go.Proofs.YtlkkfkkhllijbaaDoor

/-- The state of the search; the stack's top is its last element. -/
structure TS where
  index : List Nat
  low : List Nat
  cls : List Int
  stack : List Nat
  count : Nat
  cc : Nat
def TS.ix (s : TS) (v : Nat) : Nat := s.index.getD v 0
def TS.lw (s : TS) (v : Nat) : Nat := s.low.getD v 0
def TS.cl (s : TS) (v : Nat) : Int := s.cls.getD v 0
def TS.setLow (s : TS) (v k : Nat) : TS := { s with low := s.low.set v k }
def TS.enter (s : TS) (v : Nat) : TS := { s with index := s.index.set v (s.count + 1), low := s.low.set v (s.count + 1), stack := s.stack ++ [v], count := s.count + 1 }
/-- The top of the stack is taken off down to v, all of it gets a class. -/
def popTo (v : Nat) (c : Int) : List Nat → List Int → List Nat × List Int
  | [], cls => ([], cls)
  | w :: r, cls => if w = v then (r, cls.set w c) else popTo v c r (cls.set w c)
def TS.pop (s : TS) (v : Nat) : TS := { s with stack := (popTo v s.cc s.stack.reverse s.cls).1.reverse, cls := (popTo v s.cc s.stack.reverse s.cls).2, cc := s.cc + 1 }
def TS.finish (s : TS) (v : Nat) : TS := if s.lw v < s.ix v then s else s.pop v
def edgeF (rec : Nat → TS → TS) (v : Nat) (s : TS) (w : Nat) : TS :=
  if s.ix w = 0 then (rec w s).setLow v (min ((rec w s).lw v) ((rec w s).lw w))
  else if s.cl w < 0 then s.setLow v (min (s.lw v) (s.ix w)) else s
def visit (next : Nat → List Nat) : Nat → Nat → TS → TS
  | 0, _, s => s
  | f + 1, v, s => ((next v).foldl (edgeF (visit next f) v) (s.enter v)).finish v

inductive Rch (next : Nat → List Nat) : Nat → Nat → Prop where
  | refl (v : Nat) : Rch next v v
  | step {u v w : Nat} (h : v ∈ next u) (k : Rch next v w) : Rch next u w
theorem Rch.trans {next : Nat → List Nat} {u v w : Nat} (h : Rch next u v) (k : Rch next v w) : Rch next u w := by
  induction h with
  | refl => exact k
  | step h _ ih => exact .step h (ih k)
theorem Rch.one {next : Nat → List Nat} {u v : Nat} (h : v ∈ next u) : Rch next u v := .step h (.refl v)

theorem getD_set_self {α : Type} {l : List α} {i : Nat} {x d : α} (h : i < l.length) : (l.set i x).getD i d = x := by
  rw [List.getD_eq_getElem?_getD, List.getElem?_set_self h]; rfl
theorem getD_set_ne {α : Type} {l : List α} {i j : Nat} {x d : α} (h : i ≠ j) : (l.set i x).getD j d = l.getD j d := by
  rw [List.getD_eq_getElem?_getD, List.getD_eq_getElem?_getD, List.getElem?_set_ne h]

/-- What holds of a state between two steps. -/
structure TInv (next : Nat → List Nat) (N : Nat) (s : TS) : Prop where
  li : s.index.length = N
  ll : s.low.length = N
  lc : s.cls.length = N
  nd : s.stack.Pairwise (fun x y => s.ix x < s.ix y)
  st : ∀ x, x < N → (x ∈ s.stack ↔ s.ix x ≠ 0 ∧ s.cl x < 0)
  bd : ∀ x ∈ s.stack, x < N
  un : ∀ x, x < N → s.ix x = 0 → s.cl x < 0
  ct : ∀ x, x < N → s.ix x ≤ s.count
  cb : ∀ x, x < N → s.cl x < s.cc
  ce : ∀ c : Nat, c < s.cc → ∃ x, x < N ∧ s.cl x = c
  i1 : ∀ x y, x < N → y < N → 0 ≤ s.cl x → s.cl x = s.cl y → Rch next x y
  i2 : ∀ x y, x < N → y ∈ next x → 0 ≤ s.cl x → 0 ≤ s.cl y ∧ s.cl y ≤ s.cl x

/-- What a call of the search for v makes of a state. -/
structure TPost (next : Nat → List Nat) (N : Nat) (v : Nat) (s s' : TS) : Prop where
  inv : TInv next N s'
  ix : ∀ x, x < N → s.ix x ≠ 0 → s'.ix x = s.ix x
  lw : ∀ x, x < N → s.ix x ≠ 0 → s'.lw x = s.lw x
  cl : ∀ x, x < N → s.ix x ≠ 0 → s'.cl x = s.cl x
  ct : s.count ≤ s'.count
  vs : s'.ix v ≠ 0
  nw : ∀ x, x < N → s.ix x = 0 → s'.ix x ≠ 0 → ∀ y ∈ next x, s'.ix y ≠ 0
  ne : ∃ new, s'.stack = s.stack ++ new ∧ (∀ x ∈ new, Rch next v x) ∧ (new = [] → s.count < s'.lw v) ∧
    (new ≠ [] → ∃ y ∈ s.stack, s.ix y = s'.lw v ∧ Rch next v y) ∧
    (∀ x ∈ new, (∃ y ∈ s.stack, s'.lw v ≤ s.ix y ∧ Rch next x y) ∧ ∀ y ∈ next x, y ∈ s.stack → s'.lw v ≤ s.ix y)

def unvis (N : Nat) (s : TS) : Nat := ((List.range N).filter fun x => decide (s.ix x = 0)).length
theorem unvis_le {N : Nat} {s s' : TS} (h : ∀ x, x < N → s.ix x ≠ 0 → s'.ix x ≠ 0) : unvis N s' ≤ unvis N s := by
  unfold unvis
  refine List.Sublist.length_le ?_
  have : ((List.range N).filter fun x => decide (s'.ix x = 0)) = ((List.range N).filter fun x => decide (s.ix x = 0)).filter fun x => decide (s'.ix x = 0) := by
    rw [List.filter_filter]
    refine List.filter_congr fun x hx => ?_
    have hx := List.mem_range.1 hx
    by_cases h1 : s'.ix x = 0
    · have : s.ix x = 0 := Classical.byContradiction fun e => h x hx e h1
      simp [h1, this]
    · simp [h1]
  rw [this]
  exact List.filter_sublist
theorem unvis_lt {N v : Nat} {s s' : TS} (hv : v < N) (h0 : s.ix v = 0) (h1 : s'.ix v ≠ 0) (h : ∀ x, x < N → s.ix x ≠ 0 → s'.ix x ≠ 0) : unvis N s' < unvis N s := by
  unfold unvis
  have : ((List.range N).filter fun x => decide (s'.ix x = 0)) = ((List.range N).filter fun x => decide (s.ix x = 0)).filter fun x => decide (s'.ix x = 0) := by
    rw [List.filter_filter]
    refine List.filter_congr fun x hx => ?_
    have hx := List.mem_range.1 hx
    by_cases h1 : s'.ix x = 0
    · have : s.ix x = 0 := Classical.byContradiction fun e => h x hx e h1
      simp [h1, this]
    · simp [h1]
  rw [this]
  refine List.length_filter_lt_length_iff_exists.2 ⟨v, ?_, by simpa using h1⟩
  rw [List.mem_filter, List.mem_range]
  exact ⟨hv, by simpa using h0⟩

section
variable {next : Nat → List Nat} {N : Nat}
structure TLoop (next : Nat → List Nat) (N v : Nat) (s0 s : TS) (done : List Nat) : Prop where
  inv : TInv next N s
  ix : ∀ x, x < N → s0.ix x ≠ 0 → s.ix x = s0.ix x
  lw : ∀ x, x < N → s0.ix x ≠ 0 → s.lw x = s0.lw x
  cl : ∀ x, x < N → s0.ix x ≠ 0 → s.cl x = s0.cl x
  ct : s0.count + 1 ≤ s.count
  vx : s.ix v = s0.count + 1
  low : s.lw v ≤ s0.count + 1
  lowy : s.lw v < s0.count + 1 → ∃ y ∈ s0.stack, s0.ix y = s.lw v ∧ Rch next v y
  nw : ∀ x, x < N → x ≠ v → s0.ix x = 0 → s.ix x ≠ 0 → ∀ y ∈ next x, s.ix y ≠ 0
  dn : ∀ w ∈ done, s.ix w ≠ 0 ∧ (w ∈ s0.stack → s.lw v ≤ s0.ix w)
  st : ∃ rest, s.stack = s0.stack ++ v :: rest ∧ (∀ x ∈ rest, Rch next v x) ∧
    ∀ x ∈ rest, (Rch next x v ∨ ∃ y ∈ s0.stack, s.lw v ≤ s0.ix y ∧ Rch next x y) ∧ ∀ y ∈ next x, y ∈ s0.stack → s.lw v ≤ s0.ix y
theorem setLow_lw {s : TS} {v k : Nat} (h : v < s.low.length) : (s.setLow v k).lw v = k := getD_set_self h
theorem setLow_ne {s : TS} {v k x : Nat} (h : v ≠ x) : (s.setLow v k).lw x = s.lw x := getD_set_ne h
theorem TInv.setLow {s : TS} (h : TInv next N s) (v k : Nat) : TInv next N (s.setLow v k) :=
  ⟨h.li, by show (s.low.set v k).length = N; rw [List.length_set]; exact h.ll, h.lc, h.nd, h.st, h.bd, h.un, h.ct, h.cb, h.ce, h.i1, h.i2⟩
theorem enter_loop {s0 : TS} {v : Nat} (h : TInv next N s0) (hv : v < N) (h0 : s0.ix v = 0) : TLoop next N v s0 (s0.enter v) [] := by
  have hx : ∀ x, (s0.enter v).ix x = if x = v then s0.count + 1 else s0.ix x := fun x => by
    by_cases e : x = v
    · subst e; rw [if_pos rfl]; exact getD_set_self (by rw [h.li]; exact hv)
    · rw [if_neg e]; exact getD_set_ne (Ne.symm e)
  have hl : ∀ x, (s0.enter v).lw x = if x = v then s0.count + 1 else s0.lw x := fun x => by
    by_cases e : x = v
    · subst e; rw [if_pos rfl]; exact getD_set_self (by rw [h.ll]; exact hv)
    · rw [if_neg e]; exact getD_set_ne (Ne.symm e)
  have hne : ∀ x, s0.ix x ≠ 0 → x ≠ v := fun x hx e => hx (e ▸ h0)
  have hns : v ∉ s0.stack := fun hm => ((h.st v hv).1 hm).1 h0
  refine ⟨⟨?_, ?_, h.lc, ?_, ?_, ?_, ?_, ?_, h.cb, h.ce, h.i1, h.i2⟩, ?_, ?_, fun x _ _ => rfl, Nat.le_refl _, ?_, ?_, ?_, ?_, ?_, ?_⟩
  · show (s0.index.set v _).length = N; rw [List.length_set]; exact h.li
  · show (s0.low.set v _).length = N; rw [List.length_set]; exact h.ll
  · show List.Pairwise _ (s0.stack ++ [v])
    rw [List.pairwise_append]
    refine ⟨?_, List.pairwise_singleton _ _, fun a ha b hb => ?_⟩
    · refine List.Pairwise.imp_of_mem (fun {a b} ha hb hab => ?_) h.nd
      rw [hx, hx, if_neg (fun e : a = v => hns (e ▸ ha)), if_neg (fun e : b = v => hns (e ▸ hb))]
      exact hab
    · rw [List.mem_singleton] at hb
      subst hb
      rw [hx, hx, if_neg (fun e : a = b => hns (e ▸ ha)), if_pos rfl]
      have := h.ct a (h.bd a ha)
      omega
  · intro x hxN
    show x ∈ s0.stack ++ [v] ↔ _ ∧ s0.cl x < 0
    rw [List.mem_append, List.mem_singleton, h.st x hxN, hx]
    by_cases e : x = v
    · subst e
      rw [if_pos rfl]
      exact ⟨fun _ => ⟨by omega, h.un x hxN h0⟩, fun _ => .inr rfl⟩
    · rw [if_neg e]
      exact ⟨fun h => h.resolve_right e, .inl⟩
  · intro x hm
    rcases List.mem_append.1 hm with hm | hm
    · exact h.bd x hm
    · rw [List.mem_singleton] at hm; exact hm ▸ hv
  · intro x hxN he
    rw [hx] at he
    split at he
    · omega
    · exact h.un x hxN he
  · intro x hxN
    rw [hx]
    show _ ≤ s0.count + 1
    have := h.ct x hxN
    split <;> omega
  · intro x _ hx0; rw [hx, if_neg (hne x hx0)]
  · intro x _ hx0; rw [hl, if_neg (hne x hx0)]
  · rw [hx, if_pos rfl]
  · rw [hl, if_pos rfl]; exact Nat.le_refl _
  · rw [hl, if_pos rfl]; intro h; omega
  · intro x _ hxv hx0 hx1
    rw [hx, if_neg hxv] at hx1
    exact absurd hx0 hx1
  · intro w hw; cases hw
  · exact ⟨[], rfl, fun x hx => (by cases hx), fun x hx => (by cases hx)⟩
theorem edge_loop {s0 s : TS} {v w : Nat} {done : List Nat} {rec : Nat → TS → TS} (hN : ∀ x, x < N → ∀ y ∈ next x, y < N) (h0 : TInv next N s0) (hv : v < N) (hw : w ∈ next v) (h : TLoop next N v s0 s done)
    (hr : s.ix w = 0 → TPost next N w s (rec w s)) : TLoop next N v s0 (edgeF rec v s w) (done ++ [w]) := by
  have hwN := hN v hv w hw
  obtain ⟨rest, hst, hrv, hrx⟩ := h.st
  have hs0 : ∀ y ∈ s0.stack, s.ix y = s0.ix y := fun y hy => h.ix y (h0.bd y hy) ((h0.st y (h0.bd y hy)).1 hy).1
  have hins : ∀ y ∈ s0.stack, y ∈ s.stack := fun y hy => by rw [hst]; exact List.mem_append_left _ hy
  have hhi : ∀ y ∈ rest, s0.count + 1 < s.ix y := fun y hy => by
    have := h.inv.nd
    rw [hst, List.pairwise_append] at this
    have := (List.pairwise_cons.1 this.2.1).1 y hy
    rw [h.vx] at this
    exact this
  have hcases : ∀ y ∈ s.stack, y ∈ s0.stack ∨ y = v ∨ y ∈ rest := fun y hy => by
    rw [hst, List.mem_append, List.mem_cons] at hy
    exact hy
  unfold edgeF
  by_cases hw0 : s.ix w = 0
  · rw [if_pos hw0]
    have P := hr hw0
    generalize rec w s = s1 at *
    have hlv : s1.lw v = s.lw v := P.lw v hv (by rw [h.vx]; omega)
    rw [hlv]
    generalize hk : min (s.lw v) (s1.lw w) = k
    have k1 : k ≤ s.lw v := by omega
    have k2 : k ≤ s1.lw w := by omega
    have hll : v < s1.low.length := by rw [P.inv.ll]; exact hv
    have elv : (s1.setLow v k).lw v = k := setLow_lw hll
    obtain ⟨new, hnew, n1, n2, n3, n4⟩ := P.ne
    have hix : ∀ x, x < N → s.ix x ≠ 0 → s1.ix x ≠ 0 := fun x hx h => by rw [P.ix x hx h]; exact h
    refine ⟨P.inv.setLow v k, ?_, ?_, ?_, ?_, ?_, ?_, ?_, ?_, ?_, ?_⟩
    · intro x hx h1
      show s1.ix x = _
      rw [P.ix x hx (by rw [h.ix x hx h1]; exact h1), h.ix x hx h1]
    · intro x hx h1
      have hxv : v ≠ x := fun e => by
        have h3 := h.ix x hx h1
        have h4 := h0.ct x hx
        rw [← e, h.vx] at h3
        rw [← e] at h4
        omega
      rw [setLow_ne hxv, P.lw x hx (by rw [h.ix x hx h1]; exact h1), h.lw x hx h1]
    · intro x hx h1
      show s1.cl x = _
      rw [P.cl x hx (by rw [h.ix x hx h1]; exact h1), h.cl x hx h1]
    · exact Nat.le_trans h.ct P.ct
    · show s1.ix v = _
      rw [P.ix v hv (by rw [h.vx]; omega), h.vx]
    · rw [elv]; have := h.low; omega
    · rw [elv]
      intro hlt
      by_cases hc : s.lw v ≤ s1.lw w
      · have : k = s.lw v := by omega
        rw [this] at hlt ⊢
        exact h.lowy hlt
      · have ek : k = s1.lw w := by omega
        by_cases hne : new = []
        · have := n2 hne
          have := h.ct
          omega
        · obtain ⟨y, hy, hy1, hy2⟩ := n3 hne
          rcases hcases y hy with hy | rfl | hy
          · exact ⟨y, hy, by rw [← hs0 y hy, hy1, ek], .step hw hy2⟩
          · rw [h.vx] at hy1; omega
          · have := hhi y hy; omega
    · intro x hx hxv hx0 hx1 y hy
      have hx1 : s1.ix x ≠ 0 := hx1
      show s1.ix y ≠ 0
      by_cases hs : s.ix x = 0
      · exact P.nw x hx hs hx1 y hy
      · exact hix y (hN x hx y hy) (h.nw x hx hxv hx0 hs y hy)
    · intro w' hw'
      rw [elv]
      rcases List.mem_append.1 hw' with hd | hd
      · obtain ⟨a, b⟩ := h.dn w' hd
        refine ⟨?_, fun hm => by have := b hm; omega⟩
        show s1.ix w' ≠ 0
        by_cases hwn : w' < N
        · exact hix w' hwn a
        · exfalso
          have : s.ix w' = 0 := by
            unfold TS.ix
            rw [List.getD_eq_getElem?_getD, List.getElem?_eq_none (by rw [h.inv.li]; omega)]; rfl
          exact a this
      · rw [List.mem_singleton] at hd
        subst hd
        refine ⟨P.vs, fun hm => ?_⟩
        have := hs0 _ hm
        rw [hw0] at this
        exact absurd this.symm ((h0.st _ hwN).1 hm).1
    · refine ⟨rest ++ new, ?_, ?_, ?_⟩
      · show s1.stack = _
        rw [hnew, hst]; simp
      · intro x hx
        rcases List.mem_append.1 hx with hx | hx
        · exact hrv x hx
        · exact .step hw (n1 x hx)
      · intro x hx
        rw [elv]
        rcases List.mem_append.1 hx with hx | hx
        · obtain ⟨a, b⟩ := hrx x hx
          refine ⟨?_, fun y hy hm => by have := b y hy hm; omega⟩
          rcases a with a | ⟨y, hy, hy1, hy2⟩
          · exact .inl a
          · exact .inr ⟨y, hy, by omega, hy2⟩
        · obtain ⟨⟨y, hy, hy1, hy2⟩, b⟩ := n4 x hx
          refine ⟨?_, fun y hy hm => ?_⟩
          · rcases hcases y hy with hy | rfl | hy
            · exact .inr ⟨y, hy, by rw [← hs0 y hy]; omega, hy2⟩
            · exact .inl hy2
            · rcases (hrx y hy).1 with a | ⟨z, hz, hz1, hz2⟩
              · exact .inl (hy2.trans a)
              · exact .inr ⟨z, hz, by omega, hy2.trans hz2⟩
          · have := b y hy (hins y hm)
            rw [hs0 y hm] at this
            omega
  · rw [if_neg hw0]
    by_cases hc : s.cl w < 0
    · rw [if_pos hc]
      have hws : w ∈ s.stack := (h.inv.st w hwN).2 ⟨hw0, hc⟩
      generalize hk : min (s.lw v) (s.ix w) = k
      have k1 : k ≤ s.lw v := by omega
      have k2 : k ≤ s.ix w := by omega
      have elv : (s.setLow v k).lw v = k := setLow_lw (by rw [h.inv.ll]; exact hv)
      refine ⟨h.inv.setLow v k, h.ix, ?_, h.cl, h.ct, h.vx, ?_, ?_, h.nw, ?_, rest, hst, hrv, ?_⟩
      · intro x hx h1
        have hxv : v ≠ x := fun e => by
          have h3 := h.ix x hx h1
          have h4 := h0.ct x hx
          rw [← e, h.vx] at h3
          rw [← e] at h4
          omega
        rw [setLow_ne hxv, h.lw x hx h1]
      · rw [elv]; have := h.low; omega
      · rw [elv]
        intro hlt
        by_cases hcc : s.lw v ≤ s.ix w
        · have : k = s.lw v := by omega
          rw [this] at hlt ⊢
          exact h.lowy hlt
        · have ek : k = s.ix w := by omega
          rcases hcases w hws with hy | hy | hy
          · exact ⟨w, hy, by rw [← hs0 w hy, ek], .one hw⟩
          · rw [hy, h.vx] at ek; omega
          · have := hhi w hy; omega
      · intro w' hw'
        rw [elv]
        show s.ix w' ≠ 0 ∧ _
        rcases List.mem_append.1 hw' with hd | hd
        · obtain ⟨a, b⟩ := h.dn w' hd
          exact ⟨a, fun hm => by have := b hm; omega⟩
        · rw [List.mem_singleton] at hd
          subst hd
          exact ⟨hw0, fun hm => by rw [← hs0 _ hm]; exact k2⟩
      · intro x hx
        rw [elv]
        obtain ⟨a, b⟩ := hrx x hx
        refine ⟨?_, fun y hy hm => by have := b y hy hm; omega⟩
        rcases a with a | ⟨y, hy, hy1, hy2⟩
        · exact .inl a
        · exact .inr ⟨y, hy, by omega, hy2⟩
    · rw [if_neg hc]
      refine ⟨h.inv, h.ix, h.lw, h.cl, h.ct, h.vx, h.low, h.lowy, h.nw, ?_, rest, hst, hrv, hrx⟩
      intro w' hw'
      rcases List.mem_append.1 hw' with hd | hd
      · exact h.dn w' hd
      · rw [List.mem_singleton] at hd
        subst hd
        refine ⟨hw0, fun hm => ?_⟩
        have hh := (h0.st _ hwN).1 hm
        rw [h.cl _ hwN hh.1] at hc
        exact absurd hh.2 hc
theorem popTo_spec (v : Nat) (c : Int) (o : List Nat) : ∀ (r : List Nat) (cls : List Int), v ∉ r → popTo v c (r ++ v :: o) cls = (o, (r ++ [v]).foldl (fun l w => l.set w c) cls)
  | [], cls, _ => by rw [List.nil_append, popTo, if_pos rfl]; rfl
  | w :: r, cls, h => by
    have hw : w ≠ v := fun e => h (by rw [e]; simp)
    rw [List.cons_append, popTo, if_neg hw, popTo_spec v c o r _ (fun hm => h (by simp [hm]))]
    rfl
theorem fold_len (c : Int) : ∀ (r : List Nat) (cls : List Int), (r.foldl (fun l w => l.set w c) cls).length = cls.length
  | [], _ => rfl
  | w :: r, cls => by rw [List.foldl_cons, fold_len c r, List.length_set]
theorem fold_get (c : Int) : ∀ (r : List Nat) (cls : List Int) (x : Nat), x < cls.length → (r.foldl (fun l w => l.set w c) cls).getD x 0 = if x ∈ r then c else cls.getD x 0
  | [], _, _, _ => rfl
  | w :: r, cls, x, h => by
    rw [List.foldl_cons, fold_get c r _ x (by rw [List.length_set]; exact h)]
    by_cases hr : x ∈ r
    · rw [if_pos hr, if_pos (by simp [hr])]
    · rw [if_neg hr]
      by_cases e : x = w
      · subst e; rw [if_pos (by simp), getD_set_self h]
      · rw [if_neg (by simp [e, hr]), getD_set_ne (fun h => e h.symm)]
theorem pop_stack {s : TS} {v : Nat} {old rest : List Nat} (hs : s.stack = old ++ v :: rest) (hv : v ∉ rest) : (s.pop v).stack = old ∧ (s.pop v).cls = ((rest.reverse ++ [v]).foldl (fun l w => l.set w (s.cc : Int)) s.cls) := by
  have e : s.stack.reverse = rest.reverse ++ v :: old.reverse := by rw [hs]; simp
  unfold TS.pop
  rw [e, popTo_spec v _ _ _ _ (by simpa using hv)]
  exact ⟨by simp, rfl⟩
theorem finish_post {s0 s : TS} {v : Nat} (hN : ∀ x, x < N → ∀ y ∈ next x, y < N) (h0 : TInv next N s0) (hv : v < N) (hv0 : s0.ix v = 0) (h : TLoop next N v s0 s (next v)) : TPost next N v s0 (s.finish v) := by
  obtain ⟨rest, hst, hrv, hrx⟩ := h.st
  have hnw : ∀ x, x < N → s0.ix x = 0 → s.ix x ≠ 0 → ∀ y ∈ next x, s.ix y ≠ 0 := fun x hx hx0 hx1 y hy => by
    by_cases e : x = v
    · subst e; exact (h.dn y hy).1
    · exact h.nw x hx e hx0 hx1 y hy
  have hs0 : ∀ y ∈ s0.stack, s.ix y = s0.ix y := fun y hy => h.ix y (h0.bd y hy) ((h0.st y (h0.bd y hy)).1 hy).1
  unfold TS.finish
  rw [h.vx]
  by_cases hl : s.lw v < s0.count + 1
  · rw [if_pos hl]
    obtain ⟨y0, hy0, hy1, hy2⟩ := h.lowy hl
    refine ⟨h.inv, h.ix, h.lw, h.cl, by have := h.ct; omega, by rw [h.vx]; omega, hnw, v :: rest, hst, ?_, fun e => (by cases e), fun _ => ⟨y0, hy0, hy1, hy2⟩, ?_⟩
    · intro x hx
      rcases List.mem_cons.1 hx with rfl | hx
      · exact .refl _
      · exact hrv x hx
    · intro x hx
      rcases List.mem_cons.1 hx with rfl | hx
      · exact ⟨⟨y0, hy0, by omega, hy2⟩, fun y hy hm => (h.dn y hy).2 hm⟩
      · obtain ⟨a, b⟩ := hrx x hx
        refine ⟨?_, b⟩
        rcases a with a | a
        · exact ⟨y0, hy0, by omega, a.trans hy2⟩
        · exact a
  · rw [if_neg hl]
    have elw : s.lw v = s0.count + 1 := by have := h.low; omega
    have hvr : v ∉ rest := fun hm => by
      have := h.inv.nd
      rw [hst, List.pairwise_append] at this
      have := (List.pairwise_cons.1 this.2.1).1 v hm
      omega
    obtain ⟨p1, p2⟩ := pop_stack hst hvr
    have hmem : ∀ x, x ∈ rest.reverse ++ [v] ↔ x = v ∨ x ∈ rest := fun x => by simp [or_comm]
    have hcl : ∀ x, x < N → (s.pop v).cl x = if x = v ∨ x ∈ rest then (s.cc : Int) else s.cl x := fun x hx => by
      show (s.pop v).cls.getD x 0 = _
      rw [p2, fold_get _ _ _ _ (by rw [h.inv.lc]; exact hx)]
      by_cases e : x = v ∨ x ∈ rest
      · rw [if_pos ((hmem x).2 e), if_pos e]
      · rw [if_neg (fun hm => e ((hmem x).1 hm)), if_neg e]; rfl
    have hon : ∀ x, (x = v ∨ x ∈ rest) → x ∈ s.stack := fun x hx => by
      rw [hst, List.mem_append, List.mem_cons]; exact .inr hx
    have hno : ∀ x, x ∈ s0.stack → ¬ (x = v ∨ x ∈ rest) := fun x hx e => by
      have h1 := h0.ct x (h0.bd x hx)
      have h2 := hs0 x hx
      rcases e with rfl | e
      · rw [h.vx] at h2; omega
      · have := h.inv.nd
        rw [hst, List.pairwise_append] at this
        have := (List.pairwise_cons.1 this.2.1).1 x e
        rw [h.vx] at this
        omega
    have hneg : ∀ x, x ∈ s.stack → x < N ∧ s.cl x < 0 := fun x hx => ⟨h.inv.bd x hx, ((h.inv.st x (h.inv.bd x hx)).1 hx).2⟩
    have hto : ∀ x, (x = v ∨ x ∈ rest) → Rch next v x ∧ Rch next x v := fun x hx => by
      rcases hx with rfl | hx
      · exact ⟨.refl _, .refl _⟩
      · refine ⟨hrv x hx, ?_⟩
        rcases (hrx x hx).1 with a | ⟨y, hy, hy1, _⟩
        · exact a
        · have := h0.ct y (h0.bd y hy); omega
    have hedge : ∀ x, (x = v ∨ x ∈ rest) → ∀ y ∈ next x, s.ix y ≠ 0 ∧ y ∉ s0.stack := fun x hx y hy => by
      have hxN := (hneg x (hon x hx)).1
      have hx1 := ((h.inv.st x hxN).1 (hon x hx)).1
      rcases hx with rfl | hx
      · refine ⟨(h.dn y hy).1, fun hm => ?_⟩
        have h1 := (h.dn y hy).2 hm
        have := h0.ct y (h0.bd y hm); omega
      · refine ⟨?_, fun hm => ?_⟩
        · by_cases hx0 : s0.ix x = 0
          · exact hnw x hxN hx0 hx1 y hy
          · exfalso
            refine hno x ?_ (.inr hx)
            refine (h0.st x hxN).2 ⟨hx0, ?_⟩
            rw [← h.cl x hxN hx0]
            exact (hneg x (hon x (.inr hx))).2
        · have h1 := (hrx x hx).2 y hy hm
          have := h0.ct y (h0.bd y hm); omega
    have hkeep : ∀ x, x < N → s0.ix x ≠ 0 → (s.pop v).cl x = s0.cl x := fun x hx hx0 => by
      rw [hcl x hx, if_neg ?_, h.cl x hx hx0]
      intro e
      by_cases hm : s0.cl x < 0
      · exact hno x ((h0.st x hx).2 ⟨hx0, hm⟩) e
      · rw [← h.cl x hx hx0] at hm
        exact hm (hneg x (hon x e)).2
    refine ⟨⟨h.inv.li, h.inv.ll, ?_, ?_, ?_, ?_, ?_, h.inv.ct, ?_, ?_, ?_, ?_⟩, h.ix, h.lw, hkeep, by have := h.ct; show s0.count ≤ s.count; omega, by show s.ix v ≠ 0; rw [h.vx]; omega, hnw, [], by rw [p1]; simp, fun x hx => (by cases hx), ?_, fun e => absurd rfl e, fun x hx => (by cases hx)⟩
    · show (s.pop v).cls.length = N
      rw [p2, fold_len]; exact h.inv.lc
    · rw [p1]
      have := h.inv.nd
      rw [hst, List.pairwise_append] at this
      exact this.1
    · intro x hx
      rw [p1, hcl x hx]
      show _ ↔ s.ix x ≠ 0 ∧ _
      by_cases e : x = v ∨ x ∈ rest
      · rw [if_pos e]
        exact ⟨fun hm => absurd e (hno x hm), fun hm => by have := hm.2; omega⟩
      · rw [if_neg e, ← h.inv.st x hx, hst, List.mem_append, List.mem_cons]
        exact ⟨.inl, fun hm => hm.resolve_right e⟩
    · intro x hm
      rw [p1] at hm
      exact h0.bd x hm
    · intro x hx hx0
      have hx0 : s.ix x = 0 := hx0
      rw [hcl x hx, if_neg (fun e => ((h.inv.st x hx).1 (hon x e)).1 hx0)]
      exact h.inv.un x hx hx0
    · intro x hx
      rw [hcl x hx]
      show _ < ((s.cc + 1 : Nat) : Int)
      have := h.inv.cb x hx
      split <;> omega
    · intro c hc
      have hc : c < s.cc + 1 := hc
      by_cases e : c = s.cc
      · exact ⟨v, hv, by rw [hcl v hv, if_pos (.inl rfl), e]⟩
      · obtain ⟨x, hx, hxc⟩ := h.inv.ce c (by omega)
        refine ⟨x, hx, ?_⟩
        rw [hcl x hx, if_neg (fun e => ?_), hxc]
        have := (hneg x (hon x e)).2
        omega
    · intro x y hx hy hx0 hxy
      rw [hcl x hx] at hx0 hxy
      rw [hcl y hy] at hxy
      by_cases ex : x = v ∨ x ∈ rest
      · by_cases ey : y = v ∨ y ∈ rest
        · exact (hto x ex).2.trans (hto y ey).1
        · rw [if_pos ex, if_neg ey] at hxy
          have := h.inv.cb y hy
          omega
      · rw [if_neg ex] at hx0 hxy
        by_cases ey : y = v ∨ y ∈ rest
        · rw [if_pos ey] at hxy
          have := h.inv.cb x hx
          omega
        · rw [if_neg ey] at hxy
          exact h.inv.i1 x y hx hy hx0 hxy
    · intro x y hx hy hx0
      have hyN := hN x hx y hy
      rw [hcl x hx] at hx0 ⊢
      rw [hcl y hyN]
      by_cases ex : x = v ∨ x ∈ rest
      · rw [if_pos ex]
        by_cases ey : y = v ∨ y ∈ rest
        · rw [if_pos ey]; omega
        · rw [if_neg ey]
          obtain ⟨a, b⟩ := hedge x ex y hy
          have hny : y ∉ s.stack := fun hm => by
            rw [hst, List.mem_append, List.mem_cons] at hm
            rcases hm with hm | hm
            · exact b hm
            · exact ey hm
          have h2 : ¬ s.cl y < 0 := fun e => hny ((h.inv.st y hyN).2 ⟨a, e⟩)
          have := h.inv.cb y hyN
          omega
      · rw [if_neg ex] at hx0 ⊢
        obtain ⟨a, b⟩ := h.inv.i2 x y hx hy hx0
        rw [if_neg (fun e => by have := (hneg y (hon y e)).2; omega)]
        exact ⟨a, b⟩
    · intro _
      show s0.count < s.lw v
      omega
theorem TPost.vis {s s' : TS} {v : Nat} (h : TPost next N v s s') : ∀ x, x < N → s.ix x ≠ 0 → s'.ix x ≠ 0 := fun x hx hx0 => by rw [h.ix x hx hx0]; exact hx0
/-- The search from a vertex that has not been seen yet. -/
theorem visit_post (hN : ∀ x, x < N → ∀ y ∈ next x, y < N) : ∀ (f v : Nat) (s : TS), TInv next N s → v < N → s.ix v = 0 → unvis N s ≤ f → TPost next N v s (visit next f v s) := by
  intro f
  induction f with
  | zero =>
    intro v s h hv h0 hu
    exfalso
    have : v ∈ (List.range N).filter fun x => decide (s.ix x = 0) := by rw [List.mem_filter, List.mem_range]; exact ⟨hv, by simpa using h0⟩
    have := List.length_pos_of_mem this
    unfold unvis at hu
    omega
  | succ f ih =>
    intro v s h hv h0 hu
    rw [visit]
    refine finish_post hN h hv h0 ?_
    have h1 := enter_loop (next := next) h hv h0
    have key : ∀ (ws done : List Nat) (x : TS), (∀ w ∈ ws, w ∈ next v) → TLoop next N v s x done → TLoop next N v s (ws.foldl (edgeF (visit next f) v) x) (done ++ ws) := by
      intro ws
      induction ws with
      | nil => intro done x _ hx; rw [List.append_nil]; exact hx
      | cons w ws ihw =>
        intro done x hws hx
        rw [List.foldl_cons, show done ++ w :: ws = (done ++ [w]) ++ ws by simp]
        refine ihw _ _ (fun y hy => hws y (by simp [hy])) ?_
        refine edge_loop hN h hv (hws w (by simp)) hx fun hw0 => ?_
        refine ih w x hx.inv (hN v hv w (hws w (by simp))) hw0 ?_
        have h2 : unvis N x < unvis N s := unvis_lt hv h0 (by rw [hx.vx]; omega) (fun y hy hy0 => by rw [hx.ix y hy hy0]; exact hy0)
        omega
    have := key (next v) [] _ (fun w hw => hw) h1
    rwa [List.nil_append] at this
def TS.init (N : Nat) : TS := ⟨List.replicate N 0, List.replicate N 0, List.replicate N (-1), [], 0, 0⟩
def visitTo (next : Nat → List Nat) (N : Nat) : Nat → TS
  | 0 => TS.init N
  | k + 1 => if (visitTo next N k).ix k = 0 then visit next N k (visitTo next N k) else visitTo next N k
theorem getD_rep {α : Type} (n i : Nat) (x : α) : (List.replicate n x).getD i x = x := by
  rw [List.getD_eq_getElem?_getD, List.getElem?_replicate]
  split <;> rfl
theorem init_inv : TInv next N (TS.init N) := by
  have hx : ∀ x, (TS.init N).ix x = 0 := fun x => getD_rep N x 0
  have hc : ∀ x, x < N → (TS.init N).cl x = -1 := fun x hx => by
    show (List.replicate N (-1 : Int)).getD x 0 = -1
    rw [List.getD_eq_getElem?_getD, List.getElem?_replicate, if_pos hx]; rfl
  refine ⟨List.length_replicate, List.length_replicate, List.length_replicate, List.Pairwise.nil, ?_, fun x hm => (by cases hm), ?_, ?_, ?_, fun c hc => (by cases hc), ?_, ?_⟩
  · intro x _
    refine ⟨fun hm => (by cases hm), fun hm => absurd (hx x) hm.1⟩
  · intro x h _; rw [hc x h]; omega
  · intro x _; rw [hx]; exact Nat.zero_le _
  · intro x h; rw [hc x h]; show (-1 : Int) < ((0 : Nat) : Int); omega
  · intro x y h _ h0; rw [hc x h] at h0; omega
  · intro x y h _ h0; rw [hc x h] at h0; omega
theorem unvis_all (s : TS) : unvis N s ≤ N := by
  unfold unvis
  have := List.length_filter_le (fun x => decide (s.ix x = 0)) (List.range N)
  rwa [List.length_range] at this
theorem visitTo_post (hN : ∀ x, x < N → ∀ y ∈ next x, y < N) : ∀ k, k ≤ N → TInv next N (visitTo next N k) ∧ (visitTo next N k).stack = [] ∧ ∀ x, x < k → (visitTo next N k).ix x ≠ 0 := by
  intro k
  induction k with
  | zero => intro _; exact ⟨init_inv, rfl, fun x hx => (by omega)⟩
  | succ k ih =>
    intro hk
    obtain ⟨a, b, c⟩ := ih (by omega)
    rw [visitTo]
    generalize visitTo next N k = s at *
    by_cases h0 : s.ix k = 0
    · rw [if_pos h0]
      have P := visit_post hN N k s a (by omega) h0 (unvis_all s)
      obtain ⟨new, h1, h2, h3, h4, _⟩ := P.ne
      refine ⟨P.inv, ?_, fun x hx => ?_⟩
      · by_cases hn : new = []
        · rw [h1, b, hn]; rfl
        · obtain ⟨y, hy, _⟩ := h4 hn
          rw [b] at hy
          cases hy
      · by_cases e : x = k
        · subst e; exact P.vs
        · exact P.vis x (by omega) (c x (by omega))
    · rw [if_neg h0]
      refine ⟨a, b, fun x hx => ?_⟩
      by_cases e : x = k
      · subst e; exact h0
      · exact c x (by omega)
/-- What the whole search says: every vertex has a class; one class, one component; edges lead to lower classes. -/
structure TDone (next : Nat → List Nat) (N : Nat) (s : TS) : Prop where
  inv : TInv next N s
  all : ∀ x, x < N → 0 ≤ s.cl x
theorem visit_done (hN : ∀ x, x < N → ∀ y ∈ next x, y < N) : TDone next N (visitTo next N N) := by
  obtain ⟨a, b, c⟩ := visitTo_post hN N (Nat.le_refl _)
  refine ⟨a, fun x hx => ?_⟩
  by_cases h : (visitTo next N N).cl x < 0
  · have := (a.st x hx).2 ⟨c x hx, h⟩
    rw [b] at this
    cases this
  · omega
theorem TDone.mono {s : TS} (h : TDone next N s) (hN : ∀ x, x < N → ∀ y ∈ next x, y < N) {x y : Nat} (hx : x < N) (hr : Rch next x y) : s.cl y ≤ s.cl x := by
  induction hr with
  | refl => exact Int.le_refl _
  | @step u v w hm _ ih =>
    have h1 := h.inv.i2 u v hx hm (h.all u hx)
    have := ih (hN u hx v hm)
    omega
theorem TDone.one {s : TS} (h : TDone next N s) (hN : ∀ x, x < N → ∀ y ∈ next x, y < N) (h1 : 1 ≤ N) : s.cc = 1 ↔ ∀ x y, x < N → y < N → Rch next x y := by
  constructor
  · intro hc x y hx hy
    have a := h.all x hx
    have b := h.all y hy
    have c := h.inv.cb x hx
    have d := h.inv.cb y hy
    exact h.inv.i1 x y hx hy a (by omega)
  · intro hr
    have he : ∀ x, x < N → s.cl x = s.cl 0 := fun x hx => by
      have a := h.mono hN hx (hr x 0 hx (by omega))
      have b := h.mono hN (x := 0) (by omega) (hr 0 x (by omega) hx)
      omega
    have a := h.inv.cb 0 (by omega)
    have b := h.all 0 (by omega)
    have c0 := h.inv.ce 0 (by omega)
    obtain ⟨x, hx, hx0⟩ := c0
    by_cases h2 : 2 ≤ s.cc
    · obtain ⟨y, hy, hy1⟩ := h.inv.ce 1 (by omega)
      have := he x hx
      have := he y hy
      omega
    · omega
end
end Go.Proofs.YtlkkfkkhllijbaaDoor
