/- Texts of this seat, merged. -/
import Derived.Test.YtlmenhjlgmejkaaGreatDoorIn01
import Derived.Test.YtlmenhjlgmejkaaGreatDoorIn02
import Derived.Test.YtlmenhjlgmejkaaGreatDoorIn03
import Derived.Test.YtlmenhjlgmejkaaGreatDoorIn04
import Derived.Test.YtlmenhjlgmejkaaGreatDoorIn05
import Derived.Test.YtlmenhjlgmejkaaGreatDoorIn06
import Derived.Test.YtlmenhjlgmejkaaGreatDoorIn07
import Derived.Test.YtlmenhjlgmejkaaGreatDoorIn08
import Derived.Test.YtlmenhjlgmejkaaGreatDoorIn09
import Derived.Test.YtlmenhjlgmejkaaGreatDoorIn10
import Derived.Test.YtlmenhjlgmejkaaGreatDoorIn11
import Derived.Test.YtlmenhjlgmejkaaGreatDoorIn12
import Derived.Test.YtlmenhjlgmejkaaGreatDoorIn13
import Derived.Test.YtlmenhjlgmejkaaGreatDoorIn14
import Derived.Test.YtlmenhjlgmejkaaGreatDoorIn15
import Derived.Test.YtlmenhjlgmejkaaGreatDoorIn16
import Derived.Test.YtlmenhjlgmejkaaGreatDoorIn17
import Derived.Test.YtlmenhjlgmejkaaGreatDoorIn18
import Derived.Test.YtlmenhjlgmejkaaGreatDoorIn19
import Derived.Test.YtlmenhjlgmejkaaGreatDoorIn20
set_option linter.unusedSimpArgs false
set_option linter.unusedVariables false
namespace Go.Proofs.YtlmenhjlgmejkaaGreatDoor
open Go.RowKit
def cellsM (m : Mv) : List Value := [.int .i64 (m.src : Int), .int .i64 (m.dst : Int), .int .i64 (m.sym : Int)]
theorem cellsM_len (m : Mv) : (cellsM m).length = 3 := rfl
theorem cellsM_one (m : Mv) : ∀ u ∈ cellsM m, u.oneCell' = true := by intro u hu; simp [cellsM] at hu; rcases hu with rfl | rfl | rfl <;> rfl
def SmallM (m : Mv) : Prop := m.src < 1000000 ∧ m.dst < 1000000 ∧ m.sym < 1000000
def RMv : ElemR Mv := fun _ _ m cs => cs = [.int .i64 (m.src : Int), .int .i64 (m.dst : Int), .int .i64 (m.sym : Int)] ∧ SmallM m
theorem RMv.kept : ElemR.Kept RMv := fun _ _ _ _ _ _ _ _ h => h
def SlM := Sl 3 RMv
def OwnM (w : World) (base : Nat) (v : Value) (ms : List Mv) : Prop := OwnW 3 cellsM w base 73 v ms
theorem appMvs : AppInfo Tryz.prog 45 73 3 := AppInfo.mk' (z := .agg #[.int .i64 0, .int .i64 0, .int .i64 0]) (bytes := 24) Tryz.underlying45 (by kernel_rfl) (by decide) rfl (by decide)
theorem appSts : AppInfo Tryz.prog 44 33 2 := AppInfo.mk' (z := .agg #[.slice none 0 0, .slice none 0 0]) (bytes := 48) Tryz.underlying44 (by kernel_rfl) (by decide) rfl (by decide)
section
variable {w w' : World} {base : Nat} {v : Value} {ms : List Mv}
theorem OwnM.now (h : OwnM w base v ms) (hb : Below w.heap.size w w') : OwnM w' base v ms := OwnW.now h hb
theorem OwnM.sl (h : OwnM w base v ms) (hf : ∀ m ∈ ms, SmallM m) : SlM (Lt w.heap.size) w v ms := OwnW.sl h cellsM_len fun _ _ m hm => ⟨rfl, hf m hm⟩
theorem OwnM.kept {row : Option Nat} (h : OwnM w base v ms) (hg : w.grownBy w' row) (hne : ∀ g, row = some g → v.ownBlock ≠ some g) : OwnM w' base v ms := by
  refine World.ownsRow.kept h hg ?_
  cases e : v.ownBlock with
  | none => exact .inl rfl
  | some g => exact .inr (fun h' => hne g h'.symm e)
theorem OwnM.lt (h : OwnM w base v ms) : ∀ g, v.ownBlock = some g → base ≤ g ∧ g < w.heap.size := World.ownsRow.lt h
theorem OwnM.form (h : OwnM w base v ms) : ∃ A c, v = .slice A ms.length c := by
  rcases h.2 with ⟨rfl, h0⟩ | ⟨g, cap, cur, rfl, _⟩
  · exact ⟨none, 0, by rw [h0]⟩
  · exact ⟨_, _, rfl⟩
end
theorem own_apart {w : World} {b1 b2 e1 e2 s1 s2 n1 n2 : Nat} {v1 v2 : Value} {c1 c2 : List Value} (h1 : w.ownsRow b1 e1 s1 v1 n1 c1) (h2 : w.ownsRow b2 e2 s2 v2 n2 c2) (he : e1 ≠ e2) {g : Nat} (hg : v1.ownBlock = some g) : v2.ownBlock ≠ some g := by
  intro hg2
  rcases h1.2 with ⟨rfl, _⟩ | ⟨g1, cap, cur, rfl, _, hh1, _⟩
  · simp [Value.ownBlock] at hg
  rcases h2.2 with ⟨rfl, _⟩ | ⟨g2, cap2, cur2, rfl, _, hh2, _⟩
  · simp [Value.ownBlock] at hg2
  simp only [Value.ownBlock, Option.some.injEq] at hg hg2
  subst hg
  subst hg2
  rw [hh1] at hh2
  simp only [Option.some.injEq, Obj.cells.injEq] at hh2
  exact he hh2.2.1
theorem own_map_apart {w : World} {b1 e1 s1 n1 g n : Nat} {v1 : Value} {c1 : List Value} {P : Program} {k e : TypeId} {l : List (List UInt8)} (h1 : w.ownsRow b1 e1 s1 v1 n1 c1) (h2 : PosP P k e w g n l) : v1.ownBlock ≠ some g := by
  intro hg
  obtain ⟨D, ⟨es, clock, hb, _⟩, _⟩ := h2
  rcases h1.2 with ⟨rfl, _⟩ | ⟨g1, cap, cur, rfl, _, hh1, _⟩
  · simp [Value.ownBlock] at hg
  simp only [Value.ownBlock, Option.some.injEq] at hg
  subst hg
  rw [hb] at hh1
  cases hh1
theorem PosP.ne {P : Program} {k e : TypeId} {w : World} {b n g t : Nat} {l : List (List UInt8)} {cs : Array Value} (h : PosP P k e w b n l) (hB : Blk w g t cs) : g ≠ b := by
  rintro rfl
  obtain ⟨D, ⟨es, clock, hb, _⟩, _⟩ := h
  unfold Blk at hB
  rw [hb] at hB
  cases hB
theorem OwnR.regrown {α : Type} {size : Nat} {R : ElemR α} {X X' : Nat → Prop} {w w' : World} {base t : Nat} {v : Value} {xs : List α} {row : Option Nat} (h : OwnR size R X w base t v xs) (hR : ElemR.Kept R) (hb : w.grownBy w' row)
    (hr : ∀ g, row = some g → X g ∧ v.ownBlock ≠ some g) (hX : ∀ b, X' b → X b ∨ w.heap.size ≤ b) : OwnR size R X' w' base t v xs := by
  obtain ⟨cs, h, he⟩ := h
  refine ⟨cs, h.kept hb ?_, fun i x hx => ?_⟩
  · cases e : v.ownBlock with
    | none => exact .inl rfl
    | some g => exact .inr (fun h' => (hr g h'.symm).2 e)
  · obtain ⟨es, h1, h2, h3⟩ := he i x hx
    refine ⟨es, h1, h2, hR _ _ _ _ _ _ (fun b hb' => ⟨Nat.lt_of_lt_of_le hb'.1 hb.size, hb'.2.1, fun hx' => ?_⟩) (fun b hb' => hb.block b hb'.1 ?_) h3⟩
    · rcases hX b hx' with h4 | h4
      · exact hb'.2.2 h4
      · have := hb'.1; omega
    · exact fun e => hb'.2.2 (hr b e.symm).1
def PosI := PosP Tryz.prog 9 3
theorem PosI.look {w : World} {b n : Nat} {l : List (List UInt8)} (h : PosI w b n l) {s : ByteArray} (hs : s.size ≤ maxLen) :
    ∃ c : Int, (Instr.lookup 128 (.map (some b)) (.string s) true).run Tryz.prog w = .ok (.tuple #[.int .i64 c, .bool (posB l s.data.toList).isSome]) w ∧ ∀ i, posB l s.data.toList = some i → c = i :=
  PosP.look h Tryz.underlying128 Tryz.underlying9 Tryz.underlying3 (by kernel_rfl) hs
theorem PosI.store {w : World} {ops : Array Oper} {rest : List Oper} {o : Oper} {a : Act} {Q : Exit → Act → World → Prop} {b n : Nat} {l : List (List UInt8)} {s : ByteArray} {z : Int}
    (h : PosI w b n l) (hs : s.size ≤ maxLen) (hn : n < maxLen) (hl : l.length < 10000000) (hp : posB l s.data.toList = none) (hz : z = l.length) (hg : o.guard = none) (m x v : Operand)
    (hop : o.op = Op.mapUpdate 128 m x v ∨ o.op = Op.insert 128 m x v)
    (hm : a.eval m = .map (some b)) (hx : a.eval x = .string s) (hv : a.eval v = .int .i64 z)
    (hK : ∀ w', PosI w' b (n + 1) (l ++ [s.data.toList]) → w.grownBy w' (some b) → wpList Tryz.prog ops Q rest (a.put o.dst undef) w') :
    wpList Tryz.prog ops Q (o :: rest) a w := by
  subst hz
  refine wpList_plain hg fun K' hK' => ?_
  obtain ⟨w', hrun, r1, r2⟩ := PosP.put h Tryz.underlying128 Tryz.underlying9 Tryz.underlying3 hs hn hl hp
  unfold Oper.wp
  rcases hop with hop | hop
  · simp [execOp, hop, hm, hx, hv, hrun, Result.andThen]
    exact hK' _ _ (hK w' r1 r2)
  · simp [execOp, hop, hm, hx, hv, hrun, Result.andThen]
    exact hK' _ _ (hK w' r1 r2)
theorem PosI.put {w : World} {b n : Nat} {l : List (List UInt8)} {s : ByteArray} {z : Int} (h : PosI w b n l) (hs : s.size ≤ maxLen) (hn : n < maxLen) (hl : l.length < 10000000) (hp : posB l s.data.toList = none) (hz : z = l.length) :
    ∃ w', (Instr.mapUpdate 128 (.map (some b)) (.string s) (.int .i64 z)).run Tryz.prog w = .ok () w' ∧ PosI w' b (n + 1) (l ++ [s.data.toList]) ∧ w.grownBy w' (some b) := by
  subst hz
  exact PosP.put h Tryz.underlying128 Tryz.underlying9 Tryz.underlying3 hs hn hl hp
def ExX (gm : Nat) (mv : Value) (b : Nat) : Prop := b = gm ∨ mv.ownBlock = some b
structure ExI (w : World) (base gm : Nat) (sv mv : Value) (p : Sp) : Prop where
  st : OwnR 2 RSt (ExX gm mv) w base 33 sv p.states
  mo : OwnM w base mv p.moves
  mp : PosI w gm p.states.length (p.states.map keyS)
  lo : base ≤ gm
section
variable {w w' : World} {base gm : Nat} {sv mv : Value} {p : Sp}
theorem ExI.now (h : ExI w base gm sv mv p) (hb : Below w.heap.size w w') : ExI w' base gm sv mv p := ⟨h.st.now RSt.kept hb, h.mo.now hb, h.mp.now hb, h.lo⟩
theorem ExI.full {f : Bool} (h : ExI w base gm sv mv p) : ExI w base gm sv mv ⟨p.states, p.moves, f⟩ := ⟨h.st, h.mo, h.mp, h.lo⟩
theorem ExI.apart (h : ExI w base gm sv mv p) {g : Nat} (hg : sv.ownBlock = some g) : mv.ownBlock ≠ some g := by
  obtain ⟨cs, h1, _⟩ := h.st
  exact own_apart h1 h.mo (by decide) hg
theorem ExI.apart' (h : ExI w base gm sv mv p) {g : Nat} (hg : mv.ownBlock = some g) : sv.ownBlock ≠ some g := fun e => h.apart e hg
theorem ExI.smap (h : ExI w base gm sv mv p) : sv.ownBlock ≠ some gm := by
  obtain ⟨cs, h1, _⟩ := h.st
  exact own_map_apart h1 h.mp
theorem ExI.mmap (h : ExI w base gm sv mv p) : mv.ownBlock ≠ some gm := own_map_apart h.mo h.mp
theorem ExI.off (h : ExI w base gm sv mv p) {s : St} {m v : Value} (hm : SlI (Fr w.heap.size w') w' m s.marks) (hv : SlV (Fr w.heap.size w') w' v s.vals) : RSt (Off (ExX gm mv) w' sv) w' s [m, v] := by
  have hd : ∀ b, Fr w.heap.size w' b → Off (ExX gm mv) w' sv b := fun b hb' => by
    refine ⟨hb'.2, fun e => ?_, fun e => ?_⟩
    · have := (h.st.lt b e).2
      have := hb'.1
      omega
    · have h1 := hb'.1
      rcases e with e | e
      · have := h.mp.lt; omega
      · have := (h.mo.lt b e).2; omega
  exact ⟨m, v, rfl, Sl.keep hm RInt.kept hd (Same.refl _ _), Sl.keep hv RVal.kept hd (Same.refl _ _)⟩
end
theorem findIdx_congr {α : Type} {p q : α → Bool} : ∀ (l : List α), (∀ x ∈ l, p x = q x) → l.findIdx? p = l.findIdx? q
  | [], _ => rfl
  | a :: l, h => by rw [List.findIdx?_cons, List.findIdx?_cons, h a (by simp), findIdx_congr l (fun x hx => h x (by simp [hx]))]
theorem own_single {X : Nat → Prop} {w : World} {base B : Nat} {s : St} {m v : Value} (hm : SlI (Fr B w) w m s.marks) (hv : SlV (Fr B w) w v s.vals) (hb : base ≤ w.heap.size) (hX : ∀ b, X b → w.heap.size ≤ b) :
    OwnR 2 RSt X (w.alloc (.cells #[m, v] 33)) base 33 (.slice (some ⟨w.heap.size, 0, none⟩) 1 1) [s] := by
  have h1 := World.ownsRow_lit (base := base) (e := 33) (size := 2) w #[m, v] 1 hb (by unfold maxLen; omega) rfl
  refine ⟨[m, v], h1, fun i x hx => ?_⟩
  cases i with
  | succ i => simp at hx
  | zero =>
    injection hx with hx
    subst hx
    have hd : ∀ b, Fr B w b → Off X (w.alloc (.cells #[m, v] 33)) (.slice (some ⟨w.heap.size, 0, none⟩) 1 1) b := fun b hb' => by
      refine ⟨by have := hb'.2; simp; omega, fun e => ?_, fun e => ?_⟩
      · simp only [Value.ownBlock, Option.some.injEq] at e
        have := hb'.2; omega
      · have := hX b e; have := hb'.2; omega
    have hs : Same (Fr B w) w (w.alloc (.cells #[m, v] 33)) := fun b hb' => Below.heap_alloc w _ b hb'.2
    refine ⟨[m, v], rfl, fun j u hu => ?_, m, v, rfl, Sl.keep hm RInt.kept hd hs, Sl.keep hv RVal.kept hd hs⟩
    simpa using hu
theorem SlI.grownF {B : Nat} {w w' : World} {row : Option Nat} {v : Value} {zs : List Int} (h : SlI (Fr B w) w v zs) (hb : w.grownBy w' row) (hr : ∀ g, row = some g → g < B) : SlI (Fr B w') w' v zs :=
  Sl.keep h RInt.kept (fun _ hx => ⟨hx.1, Nat.lt_of_lt_of_le hx.2 hb.size⟩) (fun b hx => hb.block b hx.2 (fun e => by have := hr b e.symm; have := hx.1; omega))
theorem SlV.grownF {B : Nat} {w w' : World} {row : Option Nat} {v : Value} {zs : List Val} (h : SlV (Fr B w) w v zs) (hb : w.grownBy w' row) (hr : ∀ g, row = some g → g < B) : SlV (Fr B w') w' v zs :=
  Sl.keep h RVal.kept (fun _ hx => ⟨hx.1, Nat.lt_of_lt_of_le hx.2 hb.size⟩) (fun b hx => hb.block b hx.2 (fun e => by have := hr b e.symm; have := hx.1; omega))
theorem ExI.pushM {w w' : World} {base gm : Nat} {sv mv mv' : Value} {p : Sp} {m : Mv} (h : ExI w base gm sv mv p) (hmo : OwnM w' base mv' (p.moves ++ [m])) (hg : w.grownBy w' mv.ownBlock) (hat : mv'.ownBlock = mv.ownBlock ∨ mv'.ownBlock = some (w.heap.size + 1)) (hbase : base ≤ w.heap.size) :
    ExI w' base gm sv mv' ⟨p.states, p.moves ++ [m], p.full⟩ ∧ Below base w w' := by
  refine ⟨⟨?_, hmo, PosP.grown h.mp hg (fun e => h.mmap e.symm), h.lo⟩, below_of_grown hg hbase (fun g hg => (h.mo.lt g hg).1)⟩
  refine h.st.regrown RSt.kept hg (fun g hg => ⟨.inr hg, h.apart' hg⟩) (fun b hb => ?_)
  rcases hb with hb | hb
  · exact .inl (.inl hb)
  · rcases hat with e | e
    · exact .inl (.inr (by rw [← e]; exact hb))
    · rw [e] at hb
      injection hb with hb
      exact .inr (by omega)
theorem ExI.putS {w w' : World} {base gm : Nat} {sv mv : Value} {p : Sp} (h : ExI w base gm sv mv p) (hg : w.grownBy w' (some gm)) (hbase : base ≤ w.heap.size) :
    OwnR 2 RSt (ExX gm mv) w' base 33 sv p.states ∧ OwnM w' base mv p.moves ∧ Below base w w' :=
  ⟨h.st.regrown RSt.kept hg (fun g hg => by injection hg with hg; subst hg; exact ⟨.inl rfl, h.smap⟩) (fun b hb => .inl hb), h.mo.kept hg (fun g hg => by injection hg with hg; subst hg; exact h.mmap), below_of_grown hg hbase (fun g hg => by injection hg with hg; subst hg; exact h.lo)⟩
theorem ExI.pushS {w w' : World} {base gm : Nat} {sv sv' mv : Value} {p : Sp} {s : St} (h1 : OwnR 2 RSt (ExX gm mv) w base 33 sv p.states) (h2 : OwnM w base mv p.moves) (h3 : PosI w gm (p.states.length + 1) (p.states.map keyS ++ [keyS s])) (h4 : base ≤ gm)
    (hst : OwnR 2 RSt (ExX gm mv) w' base 33 sv' (p.states ++ [s])) (hg : w.grownBy w' sv.ownBlock) (hbase : base ≤ w.heap.size) :
    ExI w' base gm sv' mv ⟨p.states ++ [s], p.moves, p.full⟩ ∧ Below base w w' := by
  obtain ⟨cs, ho, _⟩ := h1
  refine ⟨⟨hst, h2.kept hg (fun g hg => own_apart ho h2 (by decide) hg), ?_, h4⟩, below_of_grown hg hbase (fun g hg => (World.ownsRow.lt ho g hg).1)⟩
  have := PosP.grown h3 hg (fun e => own_map_apart ho h3 e.symm)
  show PosP _ _ _ _ _ _ _
  rw [List.length_append, List.map_append]
  exact this
theorem pos_idx {n : DNet} {l : List St} {s : St} (hl : ∀ x ∈ l, stateB n x = true) (hs : stateB n s = true) : posB (l.map keyS) (keyS s) = idxS l s := by
  unfold posB idxS
  rw [List.findIdx?_map]
  refine findIdx_congr l fun x hx => ?_
  show decide (keyS x = keyS s) = decide (x = s)
  rw [decide_eq_decide]
  exact ⟨fun h => key_state (hl x hx) hs h, fun h => by rw [h]⟩
theorem keyS_size {s : St} (hml : s.marks.length ≤ 1000) (hvl : s.vals.length ≤ 1000) (hms : ∀ z ∈ s.marks, -1000 ≤ z ∧ z ≤ 1000) : (⟨(keyS s).toArray⟩ : ByteArray).size ≤ maxLen := by
  have h1 := keyM_len hms
  have h2 := keyV_len s.vals
  show (keyS s).toArray.size ≤ _
  rw [List.size_toArray]
  unfold keyS maxLen
  rw [List.length_append]
  omega
theorem state_small {n : DNet} {s : St} (h : stateB n s = true) : s.marks.length ≤ 1000 ∧ s.vals.length ≤ 1000 ∧ ∀ z ∈ s.marks, -1000 ≤ z ∧ z ≤ 1000 := by
  obtain ⟨h1, h2, h3⟩ := state_parts h
  have a := validOk h1
  obtain ⟨b, b2⟩ := markOk (n := n.net) h2
  obtain ⟨c1, c2, c3, _⟩ := asg_parts h3
  unfold varsB at c1
  simp only [Bool.and_eq_true, decide_eq_true_eq] at c1
  exact ⟨by omega, by omega, fun z hz => by have := b2 z hz; omega⟩
section
variable {n : DNet} {most i t : Nat} {s : St} {p q : Sp} {R : Option Sp} {F : Sp → Option Sp}
theorem row_some (ht : t < n.net.trans.length) (hq : exT n most i s t p = some q) (h : (exRow n most i s (n.net.trans.length - t) t p).bind F = R) : (exRow n most i s (n.net.trans.length - (t + 1)) (t + 1) q).bind F = R := by
  rw [show n.net.trans.length - t = (n.net.trans.length - (t + 1)) + 1 by omega, exRow, hq] at h
  exact h
theorem row_none (ht : t < n.net.trans.length) (hq : exT n most i s t p = none) (h : (exRow n most i s (n.net.trans.length - t) t p).bind F = R) : R = none := by
  rw [show n.net.trans.length - t = (n.net.trans.length - (t + 1)) + 1 by omega, exRow, hq] at h
  exact h.symm
theorem row_end (h : (exRow n most i s (n.net.trans.length - n.net.trans.length) n.net.trans.length p).bind F = R) : F p = R := by
  rw [Nat.sub_self, exRow] at h
  exact h
theorem all_some (hi : i < most + 1) (hs : p.states[i]? = some s) (h : exAll n most (most + 1 - i) i p = R) : (exRow n most i s (n.net.trans.length - 0) 0 p).bind (fun q => exAll n most (most + 1 - (i + 1)) (i + 1) q) = R := by
  rw [show most + 1 - i = (most + 1 - (i + 1)) + 1 by omega, exAll, hs] at h
  exact h
theorem all_end (hs : p.states[i]? = none) (h : exAll n most (most + 1 - i) i p = R) : R = some p := by
  cases hf : most + 1 - i with
  | zero => rw [hf, exAll] at h; exact h.symm
  | succ f => rw [hf, exAll, hs] at h; exact h.symm
theorem exT_err (h : (fireD n s (t : Int)).2 ≠ 0) : exT n most i s t p = some ⟨p.states, p.moves, p.full && decide ((fireD n s (t : Int)).2 ≠ 5)⟩ := by unfold exT; rw [if_pos h]
theorem exT_met {k : Nat} (h : (fireD n s (t : Int)).2 = 0) (hk : idxS p.states (fireD n s (t : Int)).1 = some k) (hl : p.moves.length < 20000) : exT n most i s t p = some ⟨p.states, p.moves ++ [⟨i, k, t⟩], p.full⟩ := by
  unfold exT
  rw [if_neg (by rw [h]; simp), hk]
  exact if_pos hl
theorem exT_met_full {k : Nat} (h : (fireD n s (t : Int)).2 = 0) (hk : idxS p.states (fireD n s (t : Int)).1 = some k) (hl : ¬ p.moves.length < 20000) : exT n most i s t p = none := by
  unfold exT
  rw [if_neg (by rw [h]; simp), hk]
  exact if_neg hl
theorem exT_cut (h : (fireD n s (t : Int)).2 = 0) (hk : idxS p.states (fireD n s (t : Int)).1 = none) (hl : ¬ p.states.length < most) : exT n most i s t p = some ⟨p.states, p.moves, false⟩ := by
  unfold exT
  rw [if_neg (by rw [h]; simp), hk]
  exact if_neg hl
theorem exT_new (h : (fireD n s (t : Int)).2 = 0) (hk : idxS p.states (fireD n s (t : Int)).1 = none) (hm : p.states.length < most) (hl : p.moves.length < 20000) : exT n most i s t p = some ⟨p.states ++ [(fireD n s (t : Int)).1], p.moves ++ [⟨i, p.states.length, t⟩], p.full⟩ := by
  unfold exT
  rw [if_neg (by rw [h]; simp), hk]
  exact (if_pos hm).trans (if_pos hl)
theorem exT_new_full (h : (fireD n s (t : Int)).2 = 0) (hk : idxS p.states (fireD n s (t : Int)).1 = none) (hm : p.states.length < most) (hl : ¬ p.moves.length < 20000) : exT n most i s t p = none := by
  unfold exT
  rw [if_neg (by rw [h]; simp), hk]
  exact (if_pos hm).trans (if_neg hl)
end
theorem results_tmp4 {fn : Func} {t u v x : Tmp} (h : fn.results = #[.tmp t, .tmp u, .tmp v, .tmp x]) (tmps : Array Value) (P : Program) (w : World) :
    (results fn tmps).run P w = .ok (.tuple #[tmps.getD t undef, tmps.getD u undef, tmps.getD v undef, tmps.getD x undef]) w := by
  simp [results, h]
theorem dexplE_bad {n : DNet} {s : St} {most : Int} (h : vstateB n s = false) : dexplE n s most = (noSp, 1) := if_pos h
theorem dexplE_range {n : DNet} {s : St} {most : Int} (h : vstateB n s = true) (hm : most < 1 ∨ 2000 < most) : dexplE n s most = (noSp, 2) := by
  unfold dexplE; rw [if_neg (by rw [h]; simp), if_pos hm]
theorem dexplE_none {n : DNet} {s : St} {most : Nat} (h : vstateB n s = true) (hm : 1 ≤ most ∧ most ≤ 2000) (he : exFrom n s most = none) : dexplE n s (most : Int) = (noSp, 13) := by
  unfold dexplE; rw [if_neg (by rw [h]; simp), if_neg (by omega), Int.toNat_natCast, he]
theorem dexplE_some {n : DNet} {s : St} {most : Nat} {p : Sp} (h : vstateB n s = true) (hm : 1 ≤ most ∧ most ≤ 2000) (he : exFrom n s most = some p) : dexplE n s (most : Int) = (p, 0) := by
  unfold dexplE; rw [if_neg (by rw [h]; simp), if_neg (by omega), Int.toNat_natCast, he]
theorem inv_start {n : DNet} {s : St} {most : Nat} (h : stateB n s = true) (hm : 1 ≤ most) : DInv n s most ⟨[s], [], true⟩ := by
  refine ⟨?_, rfl, hm, by simp, fun m hm => ?_, by simp, fun k h1 h2 => ?_⟩
  · intro x hx; rw [List.mem_singleton] at hx; subst hx; exact h
  · simp at hm
  · simp at h2; omega
def RetEx (p : Sp × Int) (w : World) (e : Ending) (w' : World) : Prop := ∃ sv mv, e = .returned (.tuple #[sv, mv, .bool p.1.full, .int .i64 p.2]) ∧ SlSt (Lt w'.heap.size) w' sv p.1.states ∧ SlM (Lt w'.heap.size) w' mv p.1.moves ∧ Below w.heap.size w w'
theorem inv_small {n : DNet} {s0 : St} {most : Nat} {p : Sp} (h : DInv n s0 most p) (hm : most ≤ 2000) (ht : n.net.trans.length ≤ 60) : ∀ m ∈ p.moves, SmallM m := by
  intro m hm'
  obtain ⟨s, s', h1, h2, h3⟩ := h.mv m hm'
  have a := lt_of_get h1
  have b := lt_of_get h2
  have c := h.le
  have d := (fire_parts (n := n) (s := s) (t := m.sym) (by rw [h3])).2.1
  exact ⟨by omega, by omega, by omega⟩
end Go.Proofs.YtlmenhjlgmejkaaGreatDoor
