/- Texts of this seat, merged. -/
import Derived.IntWalk
import Derived.Test.YtlmenhjlgmejkaaGreatDoorBa23
set_option linter.unusedSimpArgs false
set_option linter.unusedVariables false
namespace Go.Proofs.YtlmenhjlgmejkaaGreatDoor
open Go.RowKit
def Off (X : Nat → Prop) (w : World) (v : Value) (b : Nat) : Prop := b < w.heap.size ∧ v.ownBlock ≠ some b ∧ ¬ X b
def OwnR {α : Type} (size : Nat) (R : ElemR α) (X : Nat → Prop) (w : World) (base t : Nat) (v : Value) (xs : List α) : Prop :=
  ∃ cs, w.ownsRow base t size v xs.length cs ∧ ∀ (i : Nat) (x : α), xs[i]? = some x → ∃ es : List Value, es.length = size ∧ (∀ j u, es[j]? = some u → cs[i * size + j]? = some u) ∧ R (Off X w v) w x es
section
variable {α : Type} {size : Nat} {R : ElemR α} {X : Nat → Prop} {w w' : World} {base t : Nat} {v v' : Value} {xs : List α}
theorem OwnR.nil : OwnR size R X w base t (.slice none 0 0) ([] : List α) := ⟨[], World.ownsRow_nil _ _ _ _, fun i x hx => by simp at hx⟩
theorem OwnR.lt (h : OwnR size R X w base t v xs) : ∀ g, v.ownBlock = some g → base ≤ g ∧ g < w.heap.size := by
  obtain ⟨cs, h, _⟩ := h
  exact h.lt
theorem OwnR.sl (h : OwnR size R X w base t v xs) (hR : ElemR.Kept R) : Sl size R (Lt w.heap.size) w v xs := by
  obtain ⟨cs, h, he⟩ := h
  refine Sl.of_own h rfl (own_lt h) fun i x hx => ?_
  obtain ⟨es, h1, h2, h3⟩ := he i x hx
  exact ⟨es, h1, h2, hR _ _ _ _ _ _ (fun b hb => hb.1) (Same.refl _ _) h3⟩
theorem OwnR.open_ (h : OwnR size R X w base t v xs) : ∃ A c, v = .slice A xs.length c := by
  obtain ⟨cs, h, _⟩ := h
  rcases h.2 with ⟨rfl, h0⟩ | ⟨g, cap, cur, rfl, _⟩
  · exact ⟨none, 0, by rw [h0]⟩
  · exact ⟨_, _, rfl⟩
theorem OwnR.grown {row : Option Nat} (h : OwnR size R X w base t v xs) (hR : ElemR.Kept R) (hb : w.grownBy w' row) (hr : ∀ g, row = some g → X g ∧ v.ownBlock ≠ some g) : OwnR size R X w' base t v xs := by
  obtain ⟨cs, h, he⟩ := h
  refine ⟨cs, h.kept hb ?_, fun i x hx => ?_⟩
  · cases e : v.ownBlock with
    | none => exact .inl rfl
    | some g => exact .inr (fun h' => (hr g h'.symm).2 e)
  · obtain ⟨es, h1, h2, h3⟩ := he i x hx
    refine ⟨es, h1, h2, hR _ _ _ _ _ _ (fun b hb' => ⟨Nat.lt_of_lt_of_le hb'.1 hb.size, hb'.2⟩) (fun b hb' => hb.block b hb'.1 ?_) h3⟩
    exact fun e => hb'.2.2 (hr b e.symm).1
theorem OwnR.now (h : OwnR size R X w base t v xs) (hR : ElemR.Kept R) (hb : Below w.heap.size w w') : OwnR size R X w' base t v xs :=
  h.grown hR (grown_of_below hb none) (fun _ e => by cases e)
theorem OwnR.drewN (h : OwnR size R X w base t v xs) (hR : ElemR.Kept R) (q : Nat) : OwnR size R X (w.drewN q) base t v xs := h.now hR (bdrawn (Below.refl _ _) q)
theorem OwnR.far (h : OwnR size R X w base t v xs) (hR : ElemR.Kept R) {p : Addr} (hX : X p.block) (hv : v.ownBlock ≠ some p.block) (u : Value) : OwnR size R X (w.setCell p u) base t v xs :=
  h.grown hR (row := some p.block) ⟨rfl, rfl, rfl, by simp, fun i _ hne => Below.heap_setCell w p u i (fun e => hne (by rw [e]))⟩ (fun g e => by injection e with e; subst e; exact ⟨hX, hv⟩)
theorem OwnR.pushed {x : α} {es cs : List Value} (h : w.ownsRow base t size v xs.length cs) (he : ∀ (i : Nat) (x : α), xs[i]? = some x → ∃ es : List Value, es.length = size ∧ (∀ j u, es[j]? = some u → cs[i * size + j]? = some u) ∧ R (Off X w v) w x es)
    (hR : ElemR.Kept R) (hl : es.length = size) (hx : R (Off X w v) w x es)
    (ho : w'.ownsRow base t size v' (xs.length + 1) (cs ++ es)) (hg : w.grownBy w' v.ownBlock) (hat : v'.ownBlock = v.ownBlock ∨ v'.ownBlock = some (w.heap.size + 1)) : OwnR size R X w' base t v' (xs ++ [x]) := by
  have keep : ∀ y cs, R (Off X w v) w y cs → R (Off X w' v') w' y cs := fun y cs hy =>
    hR _ _ _ _ _ _ (fun b hb => ⟨Nat.lt_of_lt_of_le hb.1 hg.size, (by rcases hat with e | e
                                                                      · rw [e]; exact hb.2.1
                                                                      · rw [e]; intro e'; injection e' with e'; have := hb.1; omega), hb.2.2⟩)
      (fun b hb => hg.block b hb.1 (fun e => hb.2.1 e.symm)) hy
  refine ⟨cs ++ es, by simpa using ho, fun i y hy => ?_⟩
  rcases Nat.lt_or_ge i xs.length with hi | hi
  · rw [List.getElem?_append_left hi] at hy
    obtain ⟨es', h1, h2, h3⟩ := he i y hy
    refine ⟨es', h1, fun j u hu => ?_, keep _ _ h3⟩
    have := h2 j u hu
    rw [List.getElem?_append_left]
    · exact this
    · rcases Nat.lt_or_ge (i * size + j) cs.length with h' | h'
      · exact h'
      · rw [List.getElem?_eq_none h'] at this; cases this
  · rw [List.getElem?_append_right hi] at hy
    have hi0 : i - xs.length = 0 := by
      rcases Nat.eq_zero_or_pos (i - xs.length) with h' | h'
      · exact h'
      · rw [List.getElem?_eq_none (by simpa using Nat.succ_le_of_lt h')] at hy; cases hy
    rw [hi0] at hy
    injection hy with hy
    subst hy
    obtain rfl : i = xs.length := by omega
    refine ⟨es, hl, fun j u hu => ?_, keep _ _ hx⟩
    have hc : cs.length = xs.length * size := h.1
    rw [List.getElem?_append_right (by omega), hc, Nat.add_sub_cancel_left]
    exact hu
end
section
variable {P : Program} {t e size base : Nat} {α : Type} {R : ElemR α} {X : Nat → Prop}
theorem wp_pushR {o : Oper} {a : Act} {K : Act → World → Prop} {Q : Exit → Act → World → Prop} (hI : AppInfo P t e size) (hR : ElemR.Kept R) (s x : Operand)
    (ho : o.op = .call { callee := .builtin .append, args := #[s, x], argTypes := #[t, t] }) (w0 : World) (es : List Value) (hes : es.length = size) (h1 : ∀ u ∈ es, u.oneCell' = true)
    (v : Value) (xs : List α) (y : α) (hs : a.eval s = v) (hown : OwnR size R X w0 base e v xs) (hy : R (Off X w0 v) w0 y es) (hx : a.eval x = .slice (some ⟨w0.heap.size, 0, none⟩) 1 1) (hn : xs.length < 10000000) (hbase : base ≤ w0.heap.size)
    (h : ∀ v' w', OwnR size R X w' base e v' (xs ++ [y]) → w0.grownBy w' v.ownBlock → (v'.ownBlock = v.ownBlock ∨ v'.ownBlock = some (w0.heap.size + 1)) → K (a.put o.dst v') w') : o.wp P a (w0.alloc (.cells es.toArray e)) K Q := by
  obtain ⟨cs, h2, h3⟩ := hown
  exact wp_push hI s x ho w0 es hes h1 v xs.length cs hs h2 hx hn hbase fun v' w' a1 a2 a3 => h v' w' (OwnR.pushed h2 h3 hR hes hy a1 a2 a3) a2 a3
theorem wpList_pushR {ops : Array Oper} {rest : List Oper} {o : Oper} {a : Act} {Q : Exit → Act → World → Prop} (hI : AppInfo P t e size) (hR : ElemR.Kept R) (hgd : o.guard = none) (s x : Operand)
    (ho : o.op = .call { callee := .builtin .append, args := #[s, x], argTypes := #[t, t] }) (w0 : World) (es : List Value) (hes : es.length = size) (h1 : ∀ u ∈ es, u.oneCell' = true)
    (v : Value) (xs : List α) (y : α) (hs : a.eval s = v) (hown : OwnR size R X w0 base e v xs) (hy : R (Off X w0 v) w0 y es) (hx : a.eval x = .slice (some ⟨w0.heap.size, 0, none⟩) 1 1) (hn : xs.length < 10000000) (hbase : base ≤ w0.heap.size)
    (h : ∀ v' w', OwnR size R X w' base e v' (xs ++ [y]) → w0.grownBy w' v.ownBlock → (v'.ownBlock = v.ownBlock ∨ v'.ownBlock = some (w0.heap.size + 1)) → wpList P ops Q rest (a.put o.dst v') w') : wpList P ops Q (o :: rest) a (w0.alloc (.cells es.toArray e)) :=
  wpList_plain hgd fun _ hK => wp_pushR hI hR s x ho w0 es hes h1 v xs y hs hown hy hx hn hbase fun v' w' h2 h3 h4 => hK _ _ (h v' w' h2 h3 h4)
end
end Go.Proofs.YtlmenhjlgmejkaaGreatDoor

namespace Go.Proofs.YtlmenhjlgmejkaaGreatDoor
open Go.RowKit
def cellsM (m : Mv) : List Value := [.int .i64 (m.src : Int), .int .i64 (m.dst : Int), .int .i64 (m.sym : Int)]
theorem cellsM_len (m : Mv) : (cellsM m).length = 3 := rfl
theorem cellsM_one (m : Mv) : ∀ u ∈ cellsM m, u.oneCell' = true := by intro u hu; simp [cellsM] at hu; rcases hu with rfl | rfl | rfl <;> rfl
def SmallM (m : Mv) : Prop := m.src < 1000000 ∧ m.dst < 1000000 ∧ m.sym < 1000000
def RMv : ElemR Mv := fun _ _ m cs => cs = [.int .i64 (m.src : Int), .int .i64 (m.dst : Int), .int .i64 (m.sym : Int)] ∧ SmallM m
theorem RMv.kept : ElemR.Kept RMv := fun _ _ _ _ _ _ _ _ h => h
def SlM := Sl 3 RMv
def OwnM (w : World) (base : Nat) (v : Value) (ms : List Mv) : Prop := OwnW 3 cellsM w base 73 v ms
theorem appMvs : AppInfo Tryz.prog 45 73 3 := AppInfo.mk' (z := .agg #[.int .i64 0, .int .i64 0, .int .i64 0]) (bytes := 24) Tryz.underlying45 (by kernel_rfl) (by decide) rfl (by decide)
theorem appSts : AppInfo Tryz.prog 44 33 2 := AppInfo.mk' (z := .agg #[.slice none 0 0, .slice none 0 0]) (bytes := 48) Tryz.underlying44 (by kernel_rfl) (by decide) rfl (by decide)
section
variable {w w' : World} {base : Nat} {v : Value} {ms : List Mv}
theorem OwnM.now (h : OwnM w base v ms) (hb : Below w.heap.size w w') : OwnM w' base v ms := OwnW.now h hb
theorem OwnM.sl (h : OwnM w base v ms) (hf : ∀ m ∈ ms, SmallM m) : SlM (Lt w.heap.size) w v ms := OwnW.sl h cellsM_len fun _ _ m hm => ⟨rfl, hf m hm⟩
theorem OwnM.kept {row : Option Nat} (h : OwnM w base v ms) (hg : w.grownBy w' row) (hne : ∀ g, row = some g → v.ownBlock ≠ some g) : OwnM w' base v ms := by
  refine World.ownsRow.kept h hg ?_
  cases e : v.ownBlock with
  | none => exact .inl rfl
  | some g => exact .inr (fun h' => hne g h'.symm e)
theorem OwnM.lt (h : OwnM w base v ms) : ∀ g, v.ownBlock = some g → base ≤ g ∧ g < w.heap.size := World.ownsRow.lt h
theorem OwnM.form (h : OwnM w base v ms) : ∃ A c, v = .slice A ms.length c := by
  rcases h.2 with ⟨rfl, h0⟩ | ⟨g, cap, cur, rfl, _⟩
  · exact ⟨none, 0, by rw [h0]⟩
  · exact ⟨_, _, rfl⟩
end
theorem own_apart {w : World} {b1 b2 e1 e2 s1 s2 n1 n2 : Nat} {v1 v2 : Value} {c1 c2 : List Value} (h1 : w.ownsRow b1 e1 s1 v1 n1 c1) (h2 : w.ownsRow b2 e2 s2 v2 n2 c2) (he : e1 ≠ e2) {g : Nat} (hg : v1.ownBlock = some g) : v2.ownBlock ≠ some g := by
  intro hg2
  rcases h1.2 with ⟨rfl, _⟩ | ⟨g1, cap, cur, rfl, _, hh1, _⟩
  · simp [Value.ownBlock] at hg
  rcases h2.2 with ⟨rfl, _⟩ | ⟨g2, cap2, cur2, rfl, _, hh2, _⟩
  · simp [Value.ownBlock] at hg2
  simp only [Value.ownBlock, Option.some.injEq] at hg hg2
  subst hg
  subst hg2
  rw [hh1] at hh2
  simp only [Option.some.injEq, Obj.cells.injEq] at hh2
  exact he hh2.2.1
theorem own_map_apart {w : World} {b1 e1 s1 n1 g n : Nat} {v1 : Value} {c1 : List Value} {P : Program} {k e : TypeId} {l : List (List UInt8)} (h1 : w.ownsRow b1 e1 s1 v1 n1 c1) (h2 : PosP P k e w g n l) : v1.ownBlock ≠ some g := by
  intro hg
  obtain ⟨D, ⟨es, clock, hb, _⟩, _⟩ := h2
  rcases h1.2 with ⟨rfl, _⟩ | ⟨g1, cap, cur, rfl, _, hh1, _⟩
  · simp [Value.ownBlock] at hg
  simp only [Value.ownBlock, Option.some.injEq] at hg
  subst hg
  rw [hb] at hh1
  cases hh1
theorem PosP.ne {P : Program} {k e : TypeId} {w : World} {b n g t : Nat} {l : List (List UInt8)} {cs : Array Value} (h : PosP P k e w b n l) (hB : Blk w g t cs) : g ≠ b := by
  rintro rfl
  obtain ⟨D, ⟨es, clock, hb, _⟩, _⟩ := h
  unfold Blk at hB
  rw [hb] at hB
  cases hB
theorem OwnR.regrown {α : Type} {size : Nat} {R : ElemR α} {X X' : Nat → Prop} {w w' : World} {base t : Nat} {v : Value} {xs : List α} {row : Option Nat} (h : OwnR size R X w base t v xs) (hR : ElemR.Kept R) (hb : w.grownBy w' row)
    (hr : ∀ g, row = some g → X g ∧ v.ownBlock ≠ some g) (hX : ∀ b, X' b → X b ∨ w.heap.size ≤ b) : OwnR size R X' w' base t v xs := by
  obtain ⟨cs, h, he⟩ := h
  refine ⟨cs, h.kept hb ?_, fun i x hx => ?_⟩
  · cases e : v.ownBlock with
    | none => exact .inl rfl
    | some g => exact .inr (fun h' => (hr g h'.symm).2 e)
  · obtain ⟨es, h1, h2, h3⟩ := he i x hx
    refine ⟨es, h1, h2, hR _ _ _ _ _ _ (fun b hb' => ⟨Nat.lt_of_lt_of_le hb'.1 hb.size, hb'.2.1, fun hx' => ?_⟩) (fun b hb' => hb.block b hb'.1 ?_) h3⟩
    · rcases hX b hx' with h4 | h4
      · exact hb'.2.2 h4
      · have := hb'.1; omega
    · exact fun e => hb'.2.2 (hr b e.symm).1
def PosI := PosP Tryz.prog 9 3
theorem PosI.look {w : World} {b n : Nat} {l : List (List UInt8)} (h : PosI w b n l) {s : ByteArray} (hs : s.size ≤ maxLen) :
    ∃ c : Int, (Instr.lookup 128 (.map (some b)) (.string s) true).run Tryz.prog w = .ok (.tuple #[.int .i64 c, .bool (posB l s.data.toList).isSome]) w ∧ ∀ i, posB l s.data.toList = some i → c = i :=
  PosP.look h Tryz.underlying128 Tryz.underlying9 Tryz.underlying3 (by kernel_rfl) hs
theorem PosI.store {w : World} {ops : Array Oper} {rest : List Oper} {o : Oper} {a : Act} {Q : Exit → Act → World → Prop} {b n : Nat} {l : List (List UInt8)} {s : ByteArray} {z : Int}
    (h : PosI w b n l) (hs : s.size ≤ maxLen) (hn : n < maxLen) (hl : l.length < 10000000) (hp : posB l s.data.toList = none) (hz : z = l.length) (hg : o.guard = none) (m x v : Operand)
    (hop : o.op = Op.mapUpdate 128 m x v ∨ o.op = Op.insert 128 m x v)
    (hm : a.eval m = .map (some b)) (hx : a.eval x = .string s) (hv : a.eval v = .int .i64 z)
    (hK : ∀ w', PosI w' b (n + 1) (l ++ [s.data.toList]) → w.grownBy w' (some b) → wpList Tryz.prog ops Q rest (a.put o.dst undef) w') :
    wpList Tryz.prog ops Q (o :: rest) a w := by
  subst hz
  refine wpList_plain hg fun K' hK' => ?_
  obtain ⟨w', hrun, r1, r2⟩ := PosP.put h Tryz.underlying128 Tryz.underlying9 Tryz.underlying3 hs hn hl hp
  unfold Oper.wp
  rcases hop with hop | hop
  · simp [execOp, hop, hm, hx, hv, hrun, Result.andThen]
    exact hK' _ _ (hK w' r1 r2)
  · simp [execOp, hop, hm, hx, hv, hrun, Result.andThen]
    exact hK' _ _ (hK w' r1 r2)
theorem PosI.put {w : World} {b n : Nat} {l : List (List UInt8)} {s : ByteArray} {z : Int} (h : PosI w b n l) (hs : s.size ≤ maxLen) (hn : n < maxLen) (hl : l.length < 10000000) (hp : posB l s.data.toList = none) (hz : z = l.length) :
    ∃ w', (Instr.mapUpdate 128 (.map (some b)) (.string s) (.int .i64 z)).run Tryz.prog w = .ok () w' ∧ PosI w' b (n + 1) (l ++ [s.data.toList]) ∧ w.grownBy w' (some b) := by
  subst hz
  exact PosP.put h Tryz.underlying128 Tryz.underlying9 Tryz.underlying3 hs hn hl hp
def ExX (gm : Nat) (mv : Value) (b : Nat) : Prop := b = gm ∨ mv.ownBlock = some b
structure ExI (w : World) (base gm : Nat) (sv mv : Value) (p : Sp) : Prop where
  st : OwnR 2 RSt (ExX gm mv) w base 33 sv p.states
  mo : OwnM w base mv p.moves
  mp : PosI w gm p.states.length (p.states.map keyS)
  lo : base ≤ gm
section
variable {w w' : World} {base gm : Nat} {sv mv : Value} {p : Sp}
theorem ExI.now (h : ExI w base gm sv mv p) (hb : Below w.heap.size w w') : ExI w' base gm sv mv p := ⟨h.st.now RSt.kept hb, h.mo.now hb, h.mp.now hb, h.lo⟩
theorem ExI.full {f : Bool} (h : ExI w base gm sv mv p) : ExI w base gm sv mv ⟨p.states, p.moves, f⟩ := ⟨h.st, h.mo, h.mp, h.lo⟩
theorem ExI.apart (h : ExI w base gm sv mv p) {g : Nat} (hg : sv.ownBlock = some g) : mv.ownBlock ≠ some g := by
  obtain ⟨cs, h1, _⟩ := h.st
  exact own_apart h1 h.mo (by decide) hg
theorem ExI.apart' (h : ExI w base gm sv mv p) {g : Nat} (hg : mv.ownBlock = some g) : sv.ownBlock ≠ some g := fun e => h.apart e hg
theorem ExI.smap (h : ExI w base gm sv mv p) : sv.ownBlock ≠ some gm := by
  obtain ⟨cs, h1, _⟩ := h.st
  exact own_map_apart h1 h.mp
theorem ExI.mmap (h : ExI w base gm sv mv p) : mv.ownBlock ≠ some gm := own_map_apart h.mo h.mp
theorem ExI.off (h : ExI w base gm sv mv p) {s : St} {m v : Value} (hm : SlI (Fr w.heap.size w') w' m s.marks) (hv : SlV (Fr w.heap.size w') w' v s.vals) : RSt (Off (ExX gm mv) w' sv) w' s [m, v] := by
  have hd : ∀ b, Fr w.heap.size w' b → Off (ExX gm mv) w' sv b := fun b hb' => by
    refine ⟨hb'.2, fun e => ?_, fun e => ?_⟩
    · have := (h.st.lt b e).2
      have := hb'.1
      omega
    · have h1 := hb'.1
      rcases e with e | e
      · have := h.mp.lt; omega
      · have := (h.mo.lt b e).2; omega
  exact ⟨m, v, rfl, Sl.keep hm RInt.kept hd (Same.refl _ _), Sl.keep hv RVal.kept hd (Same.refl _ _)⟩
end
theorem findIdx_congr {α : Type} {p q : α → Bool} : ∀ (l : List α), (∀ x ∈ l, p x = q x) → l.findIdx? p = l.findIdx? q
  | [], _ => rfl
  | a :: l, h => by rw [List.findIdx?_cons, List.findIdx?_cons, h a (by simp), findIdx_congr l (fun x hx => h x (by simp [hx]))]
theorem own_single {X : Nat → Prop} {w : World} {base B : Nat} {s : St} {m v : Value} (hm : SlI (Fr B w) w m s.marks) (hv : SlV (Fr B w) w v s.vals) (hb : base ≤ w.heap.size) (hX : ∀ b, X b → w.heap.size ≤ b) :
    OwnR 2 RSt X (w.alloc (.cells #[m, v] 33)) base 33 (.slice (some ⟨w.heap.size, 0, none⟩) 1 1) [s] := by
  have h1 := World.ownsRow_lit (base := base) (e := 33) (size := 2) w #[m, v] 1 hb (by unfold maxLen; omega) rfl
  refine ⟨[m, v], h1, fun i x hx => ?_⟩
  cases i with
  | succ i => simp at hx
  | zero =>
    injection hx with hx
    subst hx
    have hd : ∀ b, Fr B w b → Off X (w.alloc (.cells #[m, v] 33)) (.slice (some ⟨w.heap.size, 0, none⟩) 1 1) b := fun b hb' => by
      refine ⟨by have := hb'.2; simp; omega, fun e => ?_, fun e => ?_⟩
      · simp only [Value.ownBlock, Option.some.injEq] at e
        have := hb'.2; omega
      · have := hX b e; have := hb'.2; omega
    have hs : Same (Fr B w) w (w.alloc (.cells #[m, v] 33)) := fun b hb' => Below.heap_alloc w _ b hb'.2
    refine ⟨[m, v], rfl, fun j u hu => ?_, m, v, rfl, Sl.keep hm RInt.kept hd hs, Sl.keep hv RVal.kept hd hs⟩
    simpa using hu
theorem SlI.grownF {B : Nat} {w w' : World} {row : Option Nat} {v : Value} {zs : List Int} (h : SlI (Fr B w) w v zs) (hb : w.grownBy w' row) (hr : ∀ g, row = some g → g < B) : SlI (Fr B w') w' v zs :=
  Sl.keep h RInt.kept (fun _ hx => ⟨hx.1, Nat.lt_of_lt_of_le hx.2 hb.size⟩) (fun b hx => hb.block b hx.2 (fun e => by have := hr b e.symm; have := hx.1; omega))
theorem SlV.grownF {B : Nat} {w w' : World} {row : Option Nat} {v : Value} {zs : List Val} (h : SlV (Fr B w) w v zs) (hb : w.grownBy w' row) (hr : ∀ g, row = some g → g < B) : SlV (Fr B w') w' v zs :=
  Sl.keep h RVal.kept (fun _ hx => ⟨hx.1, Nat.lt_of_lt_of_le hx.2 hb.size⟩) (fun b hx => hb.block b hx.2 (fun e => by have := hr b e.symm; have := hx.1; omega))
theorem ExI.pushM {w w' : World} {base gm : Nat} {sv mv mv' : Value} {p : Sp} {m : Mv} (h : ExI w base gm sv mv p) (hmo : OwnM w' base mv' (p.moves ++ [m])) (hg : w.grownBy w' mv.ownBlock) (hat : mv'.ownBlock = mv.ownBlock ∨ mv'.ownBlock = some (w.heap.size + 1)) (hbase : base ≤ w.heap.size) :
    ExI w' base gm sv mv' ⟨p.states, p.moves ++ [m], p.full⟩ ∧ Below base w w' := by
  refine ⟨⟨?_, hmo, PosP.grown h.mp hg (fun e => h.mmap e.symm), h.lo⟩, below_of_grown hg hbase (fun g hg => (h.mo.lt g hg).1)⟩
  refine h.st.regrown RSt.kept hg (fun g hg => ⟨.inr hg, h.apart' hg⟩) (fun b hb => ?_)
  rcases hb with hb | hb
  · exact .inl (.inl hb)
  · rcases hat with e | e
    · exact .inl (.inr (by rw [← e]; exact hb))
    · rw [e] at hb
      injection hb with hb
      exact .inr (by omega)
theorem ExI.putS {w w' : World} {base gm : Nat} {sv mv : Value} {p : Sp} (h : ExI w base gm sv mv p) (hg : w.grownBy w' (some gm)) (hbase : base ≤ w.heap.size) :
    OwnR 2 RSt (ExX gm mv) w' base 33 sv p.states ∧ OwnM w' base mv p.moves ∧ Below base w w' :=
  ⟨h.st.regrown RSt.kept hg (fun g hg => by injection hg with hg; subst hg; exact ⟨.inl rfl, h.smap⟩) (fun b hb => .inl hb), h.mo.kept hg (fun g hg => by injection hg with hg; subst hg; exact h.mmap), below_of_grown hg hbase (fun g hg => by injection hg with hg; subst hg; exact h.lo)⟩
theorem ExI.pushS {w w' : World} {base gm : Nat} {sv sv' mv : Value} {p : Sp} {s : St} (h1 : OwnR 2 RSt (ExX gm mv) w base 33 sv p.states) (h2 : OwnM w base mv p.moves) (h3 : PosI w gm (p.states.length + 1) (p.states.map keyS ++ [keyS s])) (h4 : base ≤ gm)
    (hst : OwnR 2 RSt (ExX gm mv) w' base 33 sv' (p.states ++ [s])) (hg : w.grownBy w' sv.ownBlock) (hbase : base ≤ w.heap.size) :
    ExI w' base gm sv' mv ⟨p.states ++ [s], p.moves, p.full⟩ ∧ Below base w w' := by
  obtain ⟨cs, ho, _⟩ := h1
  refine ⟨⟨hst, h2.kept hg (fun g hg => own_apart ho h2 (by decide) hg), ?_, h4⟩, below_of_grown hg hbase (fun g hg => (World.ownsRow.lt ho g hg).1)⟩
  have := PosP.grown h3 hg (fun e => own_map_apart ho h3 e.symm)
  show PosP _ _ _ _ _ _ _
  rw [List.length_append, List.map_append]
  exact this
theorem pos_idx {n : DNet} {l : List St} {s : St} (hl : ∀ x ∈ l, stateB n x = true) (hs : stateB n s = true) : posB (l.map keyS) (keyS s) = idxS l s := by
  unfold posB idxS
  rw [List.findIdx?_map]
  refine findIdx_congr l fun x hx => ?_
  show decide (keyS x = keyS s) = decide (x = s)
  rw [decide_eq_decide]
  exact ⟨fun h => key_state (hl x hx) hs h, fun h => by rw [h]⟩
theorem keyS_size {s : St} (hml : s.marks.length ≤ 1000) (hvl : s.vals.length ≤ 1000) (hms : ∀ z ∈ s.marks, -1000 ≤ z ∧ z ≤ 1000) : (⟨(keyS s).toArray⟩ : ByteArray).size ≤ maxLen := by
  have h1 := keyM_len hms
  have h2 := keyV_len s.vals
  show (keyS s).toArray.size ≤ _
  rw [List.size_toArray]
  unfold keyS maxLen
  rw [List.length_append]
  omega
theorem state_small {n : DNet} {s : St} (h : stateB n s = true) : s.marks.length ≤ 1000 ∧ s.vals.length ≤ 1000 ∧ ∀ z ∈ s.marks, -1000 ≤ z ∧ z ≤ 1000 := by
  obtain ⟨h1, h2, h3⟩ := state_parts h
  have a := validOk h1
  obtain ⟨b, b2⟩ := markOk (n := n.net) h2
  obtain ⟨c1, c2, c3, _⟩ := asg_parts h3
  unfold varsB at c1
  simp only [Bool.and_eq_true, decide_eq_true_eq] at c1
  exact ⟨by omega, by omega, fun z hz => by have := b2 z hz; omega⟩
section
variable {n : DNet} {most i t : Nat} {s : St} {p q : Sp} {R : Option Sp} {F : Sp → Option Sp}
theorem row_some (ht : t < n.net.trans.length) (hq : exT n most i s t p = some q) (h : (exRow n most i s (n.net.trans.length - t) t p).bind F = R) : (exRow n most i s (n.net.trans.length - (t + 1)) (t + 1) q).bind F = R := by
  rw [show n.net.trans.length - t = (n.net.trans.length - (t + 1)) + 1 by omega, exRow, hq] at h
  exact h
theorem row_none (ht : t < n.net.trans.length) (hq : exT n most i s t p = none) (h : (exRow n most i s (n.net.trans.length - t) t p).bind F = R) : R = none := by
  rw [show n.net.trans.length - t = (n.net.trans.length - (t + 1)) + 1 by omega, exRow, hq] at h
  exact h.symm
theorem row_end (h : (exRow n most i s (n.net.trans.length - n.net.trans.length) n.net.trans.length p).bind F = R) : F p = R := by
  rw [Nat.sub_self, exRow] at h
  exact h
theorem all_some (hi : i < most + 1) (hs : p.states[i]? = some s) (h : exAll n most (most + 1 - i) i p = R) : (exRow n most i s (n.net.trans.length - 0) 0 p).bind (fun q => exAll n most (most + 1 - (i + 1)) (i + 1) q) = R := by
  rw [show most + 1 - i = (most + 1 - (i + 1)) + 1 by omega, exAll, hs] at h
  exact h
theorem all_end (hs : p.states[i]? = none) (h : exAll n most (most + 1 - i) i p = R) : R = some p := by
  cases hf : most + 1 - i with
  | zero => rw [hf, exAll] at h; exact h.symm
  | succ f => rw [hf, exAll, hs] at h; exact h.symm
theorem exT_err (h : (fireD n s (t : Int)).2 ≠ 0) : exT n most i s t p = some ⟨p.states, p.moves, p.full && decide ((fireD n s (t : Int)).2 ≠ 5)⟩ := by unfold exT; rw [if_pos h]
theorem exT_met {k : Nat} (h : (fireD n s (t : Int)).2 = 0) (hk : idxS p.states (fireD n s (t : Int)).1 = some k) (hl : p.moves.length < 20000) : exT n most i s t p = some ⟨p.states, p.moves ++ [⟨i, k, t⟩], p.full⟩ := by
  unfold exT
  rw [if_neg (by rw [h]; simp), hk]
  exact if_pos hl
theorem exT_met_full {k : Nat} (h : (fireD n s (t : Int)).2 = 0) (hk : idxS p.states (fireD n s (t : Int)).1 = some k) (hl : ¬ p.moves.length < 20000) : exT n most i s t p = none := by
  unfold exT
  rw [if_neg (by rw [h]; simp), hk]
  exact if_neg hl
theorem exT_cut (h : (fireD n s (t : Int)).2 = 0) (hk : idxS p.states (fireD n s (t : Int)).1 = none) (hl : ¬ p.states.length < most) : exT n most i s t p = some ⟨p.states, p.moves, false⟩ := by
  unfold exT
  rw [if_neg (by rw [h]; simp), hk]
  exact if_neg hl
theorem exT_new (h : (fireD n s (t : Int)).2 = 0) (hk : idxS p.states (fireD n s (t : Int)).1 = none) (hm : p.states.length < most) (hl : p.moves.length < 20000) : exT n most i s t p = some ⟨p.states ++ [(fireD n s (t : Int)).1], p.moves ++ [⟨i, p.states.length, t⟩], p.full⟩ := by
  unfold exT
  rw [if_neg (by rw [h]; simp), hk]
  exact (if_pos hm).trans (if_pos hl)
theorem exT_new_full (h : (fireD n s (t : Int)).2 = 0) (hk : idxS p.states (fireD n s (t : Int)).1 = none) (hm : p.states.length < most) (hl : ¬ p.moves.length < 20000) : exT n most i s t p = none := by
  unfold exT
  rw [if_neg (by rw [h]; simp), hk]
  exact (if_pos hm).trans (if_neg hl)
end
theorem results_tmp4 {fn : Func} {t u v x : Tmp} (h : fn.results = #[.tmp t, .tmp u, .tmp v, .tmp x]) (tmps : Array Value) (P : Program) (w : World) :
    (results fn tmps).run P w = .ok (.tuple #[tmps.getD t undef, tmps.getD u undef, tmps.getD v undef, tmps.getD x undef]) w := by
  simp [results, h]
theorem dexplE_bad {n : DNet} {s : St} {most : Int} (h : vstateB n s = false) : dexplE n s most = (noSp, 1) := if_pos h
theorem dexplE_range {n : DNet} {s : St} {most : Int} (h : vstateB n s = true) (hm : most < 1 ∨ 2000 < most) : dexplE n s most = (noSp, 2) := by
  unfold dexplE; rw [if_neg (by rw [h]; simp), if_pos hm]
theorem dexplE_none {n : DNet} {s : St} {most : Nat} (h : vstateB n s = true) (hm : 1 ≤ most ∧ most ≤ 2000) (he : exFrom n s most = none) : dexplE n s (most : Int) = (noSp, 13) := by
  unfold dexplE; rw [if_neg (by rw [h]; simp), if_neg (by omega), Int.toNat_natCast, he]
theorem dexplE_some {n : DNet} {s : St} {most : Nat} {p : Sp} (h : vstateB n s = true) (hm : 1 ≤ most ∧ most ≤ 2000) (he : exFrom n s most = some p) : dexplE n s (most : Int) = (p, 0) := by
  unfold dexplE; rw [if_neg (by rw [h]; simp), if_neg (by omega), Int.toNat_natCast, he]
theorem inv_start {n : DNet} {s : St} {most : Nat} (h : stateB n s = true) (hm : 1 ≤ most) : DInv n s most ⟨[s], [], true⟩ := by
  refine ⟨?_, rfl, hm, by simp, fun m hm => ?_, by simp, fun k h1 h2 => ?_⟩
  · intro x hx; rw [List.mem_singleton] at hx; subst hx; exact h
  · simp at hm
  · simp at h2; omega
def RetEx (p : Sp × Int) (w : World) (e : Ending) (w' : World) : Prop := ∃ sv mv, e = .returned (.tuple #[sv, mv, .bool p.1.full, .int .i64 p.2]) ∧ SlSt (Lt w'.heap.size) w' sv p.1.states ∧ SlM (Lt w'.heap.size) w' mv p.1.moves ∧ Below w.heap.size w w'
theorem inv_small {n : DNet} {s0 : St} {most : Nat} {p : Sp} (h : DInv n s0 most p) (hm : most ≤ 2000) (ht : n.net.trans.length ≤ 60) : ∀ m ∈ p.moves, SmallM m := by
  intro m hm'
  obtain ⟨s, s', h1, h2, h3⟩ := h.mv m hm'
  have a := lt_of_get h1
  have b := lt_of_get h2
  have c := h.le
  have d := (fire_parts (n := n) (s := s) (t := m.sym) (by rw [h3])).2.1
  exact ⟨by omega, by omega, by omega⟩
end Go.Proofs.YtlmenhjlgmejkaaGreatDoor

namespace Go.Proofs.YtlmenhjlgmejkaaGreatDoor
open Go.RowKit
set_option maxHeartbeats 2000000 in
set_option maxRecDepth 100000 in
theorem fireR_ref (n : Net) (v mv : Value) (m : List Int) (t : Int) (w : World) (h : IsNet (Lt w.heap.size) w v n) (hm : SlI (Lt w.heap.size) w mv m) :
    Calls Tryz.prog 112 #[v, mv, .int .i64 t] w (RetIF (fireE n m t).1 (fireE n m t).2 w) := by
  have h0 := h
  obtain ⟨tv, rfl, hp, hs, hkk, ht⟩ := h
  obtain ⟨A, c, rfl, h1, h2, ht⟩ := ht.open_
  obtain ⟨Am, cm, rfl, m1, m2, hm⟩ := hm.open_
  go_enter Tryz.func112, Tryz.ntmps112
  go_wp2_with fail
  have hb := bone w (Obj.cells #[Value.int IntKind.i64 n.places, Value.slice A n.trans.length c, Value.int IntKind.i64 n.source, Value.int IntKind.i64 n.sink] 24)
  refine (valid_ref n _ _ (h0.now hb)).mono ?_
  rintro e w1 ⟨rfl, hb1⟩
  have hbw := bthen hb hb1
  have hB1 := (Blk.new w 24 #[.int .i64 n.places, .slice A n.trans.length c, .int .i64 n.source, .int .i64 n.sink]).now hb1
  obtain ⟨q0, q1, q2, q3⟩ := hB1.c4
  have hlt1 := hB1.lt
  generalize hq : validB n = q
  have HV := Lib.hid hq
  clear hq
  cases q
  · have HE : Hid (fireE n m t = ([], 1)) := by show fireE n m t = _; unfold fireE; rw [HV.out]; rfl
    go_wp2_with fail
    go_ret2
    rw [HE.out]
    exact ⟨_, rfl, Sl.none_, hbw⟩
  go_wp2_with fail
  refine (marking_ref n _ _ m _ (h0.now hbw) (hm.now hbw)).mono ?_
  rintro e w2 ⟨rfl, hb2⟩
  have hbw2 := bthen hbw hb2
  have hB2 := hB1.now hb2
  clear hB1 q0 q1 q2 q3 hlt1 hb1 hb2 hbw hb
  obtain ⟨q0, q1, q2, q3⟩ := hB2.c4
  have hlt2 := hB2.lt
  generalize hq : markingB n.places m = q
  have HM := Lib.hid hq
  clear hq
  cases q
  · have HE : Hid (fireE n m t = ([], 1)) := by show fireE n m t = _; unfold fireE; rw [HV.out, HM.out]; rfl
    go_wp2_with fail
    go_ret2
    rw [HE.out]
    exact ⟨_, rfl, Sl.none_, hbw2⟩
  have HE : Hid (fireE n m t = fireB n m t) := by show fireE n m t = _; unfold fireE; rw [HV.out, HM.out]; rfl
  obtain ⟨v1, v2, v3, v4⟩ := validOk HV.out
  obtain ⟨hml, hmw⟩ := markOk HM.out
  have HV4 := Lib.hid v4
  have HML := Lib.hid hml
  have HMW := Lib.hid hmw
  have hml1 : (m.length : Int) ≤ 40 := by omega
  have hm0 : 0 < m.length := by omega
  clear v4 hml hmw
  by_cases h0' : t < 0
  · have HN := Lib.hid (fireB_none (n := n) (m := m) (t := t) (.inl h0'))
    go_wp2_with fail
    go_ret2
    rw [HE.out, HN.out]
    exact ⟨_, rfl, Sl.none_, hbw2⟩
  obtain ⟨k, rfl⟩ := Int.eq_ofNat_of_zero_le (Int.not_lt.1 h0')
  by_cases h3 : n.trans.length ≤ k
  · have HN := Lib.hid (fireB_none (n := n) (m := m) (t := (k : Int)) (.inr (by omega)))
    go_wp2_with fail
    go_ret2
    rw [HE.out, HN.out]
    exact ⟨_, rfl, Sl.none_, hbw2⟩
  have hkl : k < n.trans.length := by omega
  obtain ⟨b, o, x, iv, ov, rfl, hD, hx, hl, hti, hto, c0, c1, c2⟩ := (ht.now hbw2).at_ hkl
  have HF := Lib.hid (fireB_some (m := m) hx)
  have HTR := Lib.hid (HV4.out x (List.mem_of_getElem? hx))
  obtain ⟨Ai, ci, rfl, i1, i2, hti⟩ := hti.open_
  obtain ⟨Ao, co, rfl, o1, o2, hto⟩ := hto.open_
  obtain ⟨pi, po⟩ := trPlaces HTR.out
  have li := places_len pi
  have lo := places_len po
  have hin : Inside x.ins m := fun p hp => by have := places_mem pi p hp; have := HML.out; omega
  have hout : Inside x.outs m := fun p hp => by have := places_mem po p hp; have := HML.out; omega
  have HC := Lib.hid (fun W (hW : Below w2.heap.size w2 W) => can_ref n _ _ m k x W ((h0.now hbw2).now hW) ((hm.now hbw2).now hW) hx hin)
  clear hx pi po h0' h3
  go_wp2_with fail
  refine (HC.out _ (Below.refl _ _)).mono ?_
  rintro e w3 ⟨rfl, hb3⟩
  clear HC
  have hB3 := hB2.now hb3
  have hbw3 := bthen hbw2 hb3
  have hti3 := hti.now hb3
  have hto3 := hto.now hb3
  have ht3 := (ht.now hbw3)
  clear c0 q0 q1 q2 q3 hlt2 hB2 hti hto
  obtain ⟨q0, q1, q2, q3⟩ := hB3.c4
  have hlt3 := hB3.lt
  generalize hq : canB x.ins m = q
  have HCB := Lib.hid hq
  clear hq
  cases q
  · have HT : Hid (fireT x m = ([], 12)) := by show fireT x m = _; unfold fireT; rw [HCB.out]; rfl
    go_wp2_with fail
    go_ret2
    rw [HE.out, HF.out, HT.out]
    exact ⟨_, rfl, Sl.none_, hbw3⟩
  have hm3 := (hm.now hbw3).now (bone w3 (.cells #[] 3))
  go_wp2_with (at_builtin; refine wpList_appendAll appInts rfl (.tmp 34) (.tmp 35) rfl _ _ 0 [] rfl (World.ownsRow_lit (base := w3.heap.size) (e := 3) (size := 1) w3 #[] 0 (Nat.le_refl _) (by unfold maxLen; omega) rfl) _ m (Value.int .i64) rfl hm3 (fun y c h => by injection h.1) (fun y => rfl) (by omega) (by simp) ?_; intro vo w4 hown hgr hat)
  rw [Nat.zero_add, List.nil_append] at hown
  obtain ⟨g, cap, rfl, hcap, hown⟩ := OwnI.of hown hm0
  have hb4 : Below w3.heap.size w3 w4 := ((bone w3 (.cells #[] 3))).trans (below_of_grown hgr (by simp) (fun g hg => by injection hg with hg; exact Nat.le_of_eq hg))
  have hbw4 := bthen hbw3 hb4
  obtain ⟨q0, q1, q2, q3⟩ := (hB3.now hb4).c4
  clear hgr hat
  have HB4 := Lib.hid hb4
  clear q0 q1 q2 q3 hm3 hb4
  go_loopw [9] (fun i wr => ∃ j : Nat, j ≤ x.ins.length ∧ i = .int .i64 j ∧ OwnI wr w3.heap.size 3 g cap (bump (-1) m (x.ins.take j)) ∧ Below w3.heap.size w3 wr) (fun i _ => x.ins.length - (intOf i).toNat)
  case atStart => exact ⟨0, Nat.zero_le _, rfl, hown, HB4.out⟩
  case round =>
    obtain ⟨j, hj, rfl, howr, hbr⟩ := hrel
    have hgb := howr.from_
    obtain ⟨q0, q1, q2, q3⟩ := (hB3.now hbr).c4
    have hbr2 := bthen hb3 hbr
    have d1 := (hbr2.cell (p := ⟨b, o + k * 3 + 1, none⟩) hD).trans c1
    have d2 := (hbr2.cell (p := ⟨b, o + k * 3 + 2, none⟩) hD).trans c2
    by_cases hlt : j < x.ins.length
    · obtain ⟨b1, o1', p, rfl, hD1, hx1, hf1, e1⟩ := (hti3.now hbr).at_ hlt
      obtain ⟨hp0, hp1⟩ := hin p (List.mem_of_getElem? hx1)
      obtain ⟨y, rfl⟩ := Int.eq_ofNat_of_zero_le hp0
      rw [Int.toNat_natCast] at hp1
      have hyl : y < (bump (-1) m (x.ins.take j)).length := by rw [bump_length]; exact hp1
      have hcell := howr.cell (get_of_within hyl)
      have hfro := howr.frozen y
      have hwi := within_get (within_bump (-1) (.inr rfl) (x.ins.take j) 0 100 _ HMW.out (by omega) (by omega) (fun q hq => (hin q (List.mem_of_mem_take hq)).2)) hyl
      rw [List.length_take, Nat.min_eq_left hj] at hwi
      have HS : Hid (bump (-1) m (x.ins.take (j + 1)) = (bump (-1) m (x.ins.take j)).set y ((bump (-1) m (x.ins.take j)).getD y 0 + (-1))) := by
        have := bump_snoc (-1) m x.ins j _ hx1
        unfold bump1 at this
        rwa [Int.toNat_natCast] at this
      generalize hz : (bump (-1) m (x.ins.take j)).getD y 0 = z at hcell hwi HS
      have a1 : (0 : Int) ≤ (k : Int) := by omega
      have a2 : (k : Int) < (n.trans.length : Int) := by omega
      have a3 : (0 : Int) ≤ (j : Int) := by omega
      have a4 : (j : Int) < (x.ins.length : Int) := by omega
      have a5 : (0 : Int) ≤ (y : Int) := by omega
      have a6 : (y : Int) < (m.length : Int) := by omega
      clear hz hx1 hf1 hD1
      go_wp2_with fail
      go_still_tail 24, (by kernel_rfl)
      change wpList _ _ _ _ _ wr.drew
      go_wp2_with fail
      go_roundw
      case rel =>
        refine ⟨j + 1, by omega, by go_num, ?_, (hbr.setCell (p := ⟨g, y, none⟩) hgb _).drew⟩
        rw [HS.out]
        exact (howr.set_ y _).drew
      case measure => simp [intOf]; omega
    · obtain rfl : j = x.ins.length := by omega
      rw [List.take_of_length_le (Nat.le_refl _)] at howr
      have HW1 : Hid (Within (-40) 140 (bump (-1) m x.ins)) := within_mono (within_bump (-1) (.inr rfl) x.ins 0 100 m HMW.out (by omega) (by omega) (fun q hq => (hin q hq).2)) (by omega) (by omega)
      obtain ⟨wi, rfl⟩ : ∃ wi : World, wi = wr := ⟨_, rfl⟩
      have howi := howr
      have hbi := hbr
      clear howr
      go_wp2_with fail
      clear q0 q1 q2 q3 d1 d2 hbr2 hgb
      go_loopw [10] (fun i wr => ∃ j : Nat, j ≤ x.outs.length ∧ i = .int .i64 j ∧ OwnI wr w3.heap.size 3 g cap (bump 1 (bump (-1) m x.ins) (x.outs.take j)) ∧ Below w3.heap.size w3 wr) (fun i _ => x.outs.length - (intOf i).toNat)
      case atStart => exact ⟨0, Nat.zero_le _, rfl, howi, hbi⟩
      case round =>
        obtain ⟨j, hj, rfl, howr, hbr⟩ := hrel
        have hgb := howr.from_
        obtain ⟨q0, q1, q2, q3⟩ := (hB3.now hbr).c4
        have hbr2 := bthen hb3 hbr
        have d1 := (hbr2.cell (p := ⟨b, o + k * 3 + 1, none⟩) hD).trans c1
        have d2 := (hbr2.cell (p := ⟨b, o + k * 3 + 2, none⟩) hD).trans c2
        by_cases hlt : j < x.outs.length
        · obtain ⟨b1, o1', p, rfl, hD1, hx1, hf1, e1⟩ := (hto3.now hbr).at_ hlt
          obtain ⟨hp0, hp1⟩ := hout p (List.mem_of_getElem? hx1)
          obtain ⟨y, rfl⟩ := Int.eq_ofNat_of_zero_le hp0
          rw [Int.toNat_natCast] at hp1
          have hyl : y < (bump 1 (bump (-1) m x.ins) (x.outs.take j)).length := by rw [bump_length]; rw [bump_length]; exact hp1
          have hcell := howr.cell (get_of_within hyl)
          have hfro := howr.frozen y
          have hwi := within_get (within_bump 1 (.inl rfl) (x.outs.take j) (-40) 140 _ HW1.out (by omega) (by omega) (fun q hq => by rw [bump_length]; exact (hout q (List.mem_of_mem_take hq)).2)) hyl
          rw [List.length_take, Nat.min_eq_left hj] at hwi
          have HS : Hid (bump 1 (bump (-1) m x.ins) (x.outs.take (j + 1)) = (bump 1 (bump (-1) m x.ins) (x.outs.take j)).set y ((bump 1 (bump (-1) m x.ins) (x.outs.take j)).getD y 0 + 1)) := by
            have := bump_snoc 1 (bump (-1) m x.ins) x.outs j _ hx1
            unfold bump1 at this
            rwa [Int.toNat_natCast] at this
          generalize hz : (bump 1 (bump (-1) m x.ins) (x.outs.take j)).getD y 0 = z at hcell hwi HS
          have a1 : (0 : Int) ≤ (k : Int) := by omega
          have a2 : (k : Int) < (n.trans.length : Int) := by omega
          have a3 : (0 : Int) ≤ (j : Int) := by omega
          have a4 : (j : Int) < (x.outs.length : Int) := by omega
          have a5 : (0 : Int) ≤ (y : Int) := by omega
          have a6 : (y : Int) < (m.length : Int) := by omega
          clear hz hx1 hf1 hD1
          go_wp2_with fail
          go_still_tail 24, (by kernel_rfl)
          change wpList _ _ _ _ _ wr.drew
          go_wp2_with fail
          go_roundw
          case rel =>
            refine ⟨j + 1, by omega, by go_num, ?_, (hbr.setCell (p := ⟨g, y, none⟩) hgb _).drew⟩
            rw [HS.out]
            exact (howr.set_ y _).drew
          case measure => simp [intOf]; omega
        · obtain rfl : j = x.outs.length := by omega
          rw [List.take_of_length_le (Nat.le_refl _)] at howr
          have hfin : OwnI wr w3.heap.size 3 g cap (outOf x m) := howr
          have hlen : (outOf x m).length = m.length := out_length x m
          have hfits := within_fit (within_bump 1 (.inl rfl) x.outs (-40) 140 _ HW1.out (by omega) (by omega) (fun q hq => by rw [bump_length]; exact (hout q hq).2)) (by omega) (by omega)
          have HSL := Lib.hid (hfin.sl hfits)
          have HFR := Lib.hid (fresh_own (B := w.heap.size) hfin hbw3.size hfits)
          have hbwr := bthen hbw3 hbr
          have HMX := Lib.hid (marking_ref n _ _ (outOf x m) wr (h0.now hbwr) HSL.out)
          rw [out_marking v1 HM.out HTR.out HCB.out] at HMX
          rw [hlen] at HSL HMX HFR
          clear howr hfin hlen hfits hbr
          by_cases hmx : 100 < Lib.maxOf (outOf x m)
          · have HT : Hid (fireT x m = ([], 5)) := by show fireT x m = _; unfold fireT; rw [HCB.out, if_pos hmx]; rfl
            rw [decide_eq_true hmx] at HMX
            clear hmx
            go_wp2_with (go_at_call 88; refine HMX.out.mono ?_; rintro e w' ⟨rfl, hb'⟩)
            go_ret2
            rw [HE.out, HF.out, HT.out]
            exact ⟨_, rfl, Sl.none_, bthen hbwr hb'⟩
          · have HT : Hid (fireT x m = (outOf x m, 0)) := by show fireT x m = _; unfold fireT; rw [HCB.out, if_neg hmx]; rfl
            rw [decide_eq_false hmx] at HMX
            clear hmx
            go_wp2_with (go_at_call 88; refine HMX.out.mono ?_; rintro e w' ⟨rfl, hb'⟩)
            go_ret2
            rw [HE.out, HF.out, HT.out]
            exact ⟨_, rfl, SlI.nowF HFR.out hb', bthen hbwr hb'⟩
end Go.Proofs.YtlmenhjlgmejkaaGreatDoor

namespace Go.Proofs.YtlmenhjlgmejkaaGreatDoor
open Go.RowKit
theorem drewN_add' (w : World) (a b : Nat) : (w.drewN a).drewN b = w.drewN (a + b) := by simp [World.drewN, Nat.add_assoc]
theorem eq_of_gets {α : Type} {xs ys : List α} (hl : xs.length = ys.length) (h : ∀ j, j < xs.length → xs[j]? = ys[j]?) : xs = ys := by
  apply List.ext_getElem? 
  intro j
  rcases Nat.lt_or_ge j xs.length with hj | hj
  · exact h j hj
  · rw [List.getElem?_eq_none hj, List.getElem?_eq_none (by omega)]
set_option maxHeartbeats 1000000 in
theorem sameM_ref (u v : Value) (xs ys : List Int) (w : World) (hu : SlI (Lt w.heap.size) w u xs) (hv : SlI (Lt w.heap.size) w v ys) :
    Calls Tryz.prog 33 #[u, v] w fun e w' => e = .returned (.bool (xs == ys)) ∧ ∃ q, w' = w.drewN q := by
  obtain ⟨A, c, rfl, h1, h2, hu⟩ := hu.open_
  obtain ⟨A', c', rfl, h1', h2', hv⟩ := hv.open_
  by_cases hl : xs.length = ys.length
  · have hl' : ((xs.length : Int) != (ys.length : Int)) = false := by simp [hl]
    have HL := Lib.hid hl
    have hle1 : xs.length ≤ ys.length := by omega
    clear hl
    go_enter Tryz.func33, Tryz.ntmps33
    go_wp2_with fail
    go_loopw [5] (fun i wr => ∃ k q : Nat, k ≤ xs.length ∧ i = .int .i64 k ∧ (∀ j, j < k → xs[j]? = ys[j]?) ∧ wr = w.drewN q) (fun i _ => xs.length - (intOf i).toNat)
    case atStart => exact ⟨0, 0, Nat.zero_le _, rfl, fun j h => absurd h (by omega), rfl⟩
    case round =>
      obtain ⟨k, q, hk, rfl, hp, rfl⟩ := hrel
      have HP := Lib.hid hp
      clear hp
      have hu' : SlI (Lt (w.drewN q).heap.size) (w.drewN q) (.slice A xs.length c) xs := hu
      have hv' : SlI (Lt (w.drewN q).heap.size) (w.drewN q) (.slice A' ys.length c') ys := hv
      by_cases hlt : k < xs.length
      · obtain ⟨b, o, x, rfl, hD, hx, hf, hcell⟩ := hu'.at_ hlt
        obtain ⟨b', o', y, rfl, hD', hy, hf', hcell'⟩ := hv'.at_ (k := k) (by omega)
        have i1 : (0 : Int) ≤ k := by omega
        have i2 : (k : Int) < (xs.length : Int) := by omega
        have i3 : (k : Int) < (ys.length : Int) := by omega
        have HX := Lib.hid hx
        have HY := Lib.hid hy
        generalize hwd : w.drewN q = wd at *
        have HW := Lib.hid hwd
        clear hwd hu' hv' hx hy hD hD'
        by_cases hxy : x = y
        · have t1 : (x != y) = false := by simpa using hxy
          have HXY := Lib.hid hxy
          clear hxy
          go_wp2
          go_quiet (fail)
          go_wp2
          go_roundw
          case rel => exact ⟨k + 1, _, by omega, by go_num, fun j hj => by
            by_cases e : j = k
            · subst e; rw [HX.out, HY.out, HXY.out]
            · exact HP.out j (by omega), by rw [← HW.out]; exact drewN_add' _ _ _⟩
          case measure => simp [intOf]; omega
        · have t1 : (x != y) = true := by simpa using hxy
          have HE : Hid ((xs == ys) = false) := by
            show (xs == ys) = false
            rw [beq_eq_false_iff_ne]
            intro e
            have hX := HX.out
            rw [e, HY.out] at hX
            injection hX with hX
            exact hxy hX.symm
          clear hxy
          go_wp2
          go_quiet (fail)
          go_wp2
          go_ret
          exact ⟨ret_bool HE.out.symm, _, by rw [← HW.out]; exact drewN_add' _ _ _⟩
      · have HE : Hid ((xs == ys) = true) := by
          show (xs == ys) = true
          rw [beq_iff_eq]
          exact eq_of_gets HL.out (fun j hj => HP.out j (by omega))
        go_wp2
        go_ret
        exact ⟨ret_bool HE.out.symm, q, rfl⟩
  · have hl' : ((xs.length : Int) != (ys.length : Int)) = true := by simp; omega
    have HE : Hid ((xs == ys) = false) := by
      show (xs == ys) = false
      rw [beq_eq_false_iff_ne]
      exact fun e => hl (by rw [e])
    clear hl
    go_enter Tryz.func33, Tryz.ntmps33
    go_wp2_with fail
    go_ret
    exact ⟨ret_bool HE.out.symm, 0, rfl⟩
def sameSt (a b : St) : Bool := (a.marks == b.marks) && decide (a.vals = b.vals)
theorem sameSt_self (a : St) : sameSt a a = true := by unfold sameSt; simp
set_option maxHeartbeats 1000000 in
theorem sameSt_ref (a b : St) (u v : Value) (w : World) (hu : IsSt (Lt w.heap.size) w u a) (hv : IsSt (Lt w.heap.size) w v b) :
    Calls Tryz.prog 16 #[u, v] w fun e w' => e = .returned (.bool (sameSt a b)) ∧ Below w.heap.size w w' := by
  obtain ⟨mv, vv, rfl, s1, s2⟩ := hu
  obtain ⟨mv', vv', rfl, s3, s4⟩ := hv
  have HE : Hid (sameSt a b = ((a.marks == b.marks) && decide (a.vals = b.vals))) := rfl
  have hb0 := bone w (.cells #[mv, vv] 33)
  have hb := bbox hb0 (.cells #[mv', vv'] 33)
  have HM := Lib.hid (sameM_ref _ _ _ _ _ (s1.now hb) (s3.now hb))
  have HS := Lib.hid (fun q => same_ref _ _ _ _ _ ((s2.now hb).now (bdrawn (Below.refl _ _) q)) ((s4.now hb).now (bdrawn (Below.refl _ _) q)))
  clear s1 s2 s3 s4
  generalize sameSt a b = q0 at *
  generalize (a.marks == b.marks) = q1 at *
  generalize decide (a.vals = b.vals) = q2 at *
  go_enter Tryz.func16, Tryz.ntmps16
  go_wp2_with fail
  refine HM.out.mono ?_
  rintro e w2 ⟨rfl, q, rfl⟩
  have HB := Lib.hid (bdrawn hb q)
  cases q1
  · go_wp2_with fail
    go_ret
    exact ⟨ret_bool (by rw [HE.out]; rfl), HB.out⟩
  · go_wp2_with fail
    refine (HS.out q).mono ?_
    rintro e w3 ⟨rfl, hb3⟩
    go_wp2_with fail
    go_ret
    exact ⟨ret_bool (by rw [HE.out]; rfl), bthen HB.out hb3⟩
end Go.Proofs.YtlmenhjlgmejkaaGreatDoor
