/- Texts of this seat, merged. -/
import Derived.Lib.ItoaLen
import Derived.Test.YtijmnenojbfdnaaGreatDoorEa01
import Derived.Test.YtijmnenojbfdnaaGreatDoorEa02
import Derived.Test.YtijmnenojbfdnaaGreatDoorEa03
import Derived.Test.YtijmnenojbfdnaaGreatDoorEa04
import Derived.Test.YtijmnenojbfdnaaGreatDoorEa05
import Derived.Test.YtijmnenojbfdnaaGreatDoorEa06
import Derived.Test.YtijmnenojbfdnaaGreatDoorEa07
set_option linter.unusedSimpArgs false
set_option linter.unusedVariables false
namespace Go.Proofs.YtijmnenojbfdnaaGreatDoor
open Go.RowKit
inductive Ex where
  | mk (op : Int) (v : Val) (s : ByteArray) (l : List Ex) : Ex
def Ex.op : Ex → Int | .mk o _ _ _ => o
def Ex.v : Ex → Val | .mk _ v _ _ => v
def Ex.s : Ex → ByteArray | .mk _ _ s _ => s
def Ex.l : Ex → List Ex | .mk _ _ _ l => l
def keyWords : List (List UInt8) := [[97, 110, 100], [101, 108, 115, 101], [102, 97, 108, 115, 101], [105, 102], [105, 110], [110, 111, 116], [111, 114], [116, 104, 101, 110], [116, 114, 117, 101]]
def keyB (s : ByteArray) : Bool := keyWords.any fun w => s.toList == w
def zeroV (v : Val) : Bool := decide (v = noV)
def shapeX (x : Ex) : Bool :=
  if x.op = 1 then decide (x.l.length = 0) && noS x.s && validV x.v
  else if x.op = 2 then decide (x.l.length = 0) && zeroV x.v && isNameB x.s && !keyB x.s
  else zeroV x.v && noS x.s &&
    (if x.op = 3 then decide (x.l.length = 1)
     else if 4 ≤ x.op ∧ x.op ≤ 11 then decide (x.l.length = 2)
     else if x.op = 12 then decide (x.l.length = 3)
     else if x.op = 13 then decide (2 ≤ x.l.length) && (x.l.drop 1).all fun y => decide (y.op = 1)
     else false)
mutual
/-- How many nodes are left after those of an expression; -1: it is not well-formed. -/
def cntX : Ex → Int → Int → Int
  | .mk o v s l, a, d => if a ≤ 0 ∨ d ≤ 0 ∨ shapeX (.mk o v s l) = false then -1 else cntL l (a - 1) (d - 1)
def cntL : List Ex → Int → Int → Int
  | [], a, _ => a
  | x :: l, a, d => if cntX x a d < 0 then -1 else cntL l (cntX x a d) d
end
theorem cntX_eq (x : Ex) (a d : Int) : cntX x a d = if a ≤ 0 ∨ d ≤ 0 ∨ shapeX x = false then -1 else cntL x.l (a - 1) (d - 1) := by
  cases x; rw [cntX]; rfl
def validX (x : Ex) : Bool := decide (0 ≤ cntX x 400 60)
mutual
/-- Well-formed in all its parts. -/
def okX : Ex → Bool
  | .mk o v s l => shapeX (.mk o v s l) && decide (l.length ≤ 400) && okL l
def okL : List Ex → Bool
  | [] => true
  | x :: l => okX x && okL l
end
theorem okX_eq (x : Ex) : okX x = (shapeX x && decide (x.l.length ≤ 400) && okL x.l) := by cases x; rw [okX]; rfl
theorem okL_mem {l : List Ex} (h : okL l = true) : ∀ x ∈ l, okX x = true := by
  induction l with
  | nil => intro x hx; simp at hx
  | cons a l ih =>
    rw [okL, Bool.and_eq_true] at h
    intro x hx
    rcases List.mem_cons.1 hx with rfl | hx
    · exact h.1
    · exact ih h.2 x hx
mutual
theorem cntX_ok : ∀ (x : Ex) (a d : Int), a ≤ 400 → 0 ≤ cntX x a d → okX x = true ∧ cntX x a d < a
  | .mk o v s l, a, d, ha, h => by
    rw [cntX] at h ⊢
    split at h
    · omega
    · rename_i hc
      rw [if_neg hc]
      have hc1 : ¬ a ≤ 0 := fun e => hc (.inl e)
      have hc3 : shapeX (.mk o v s l) = true := by
        cases e : shapeX (.mk o v s l)
        · exact absurd (.inr (.inr e)) hc
        · rfl
      obtain ⟨h1, h2, h3⟩ := cntL_ok l (a - 1) (d - 1) (by omega) h
      refine ⟨?_, by omega⟩
      rw [okX, hc3, h1, decide_eq_true (by omega)]; rfl
theorem cntL_ok : ∀ (l : List Ex) (a d : Int), a ≤ 400 → 0 ≤ cntL l a d → okL l = true ∧ cntL l a d ≤ a ∧ l.length ≤ a - cntL l a d
  | [], a, d, ha, h => by rw [cntL] at h ⊢; exact ⟨rfl, by omega, by simp⟩
  | x :: l, a, d, ha, h => by
    rw [cntL] at h ⊢
    split at h
    · omega
    · rename_i hc
      rw [if_neg hc]
      obtain ⟨h1, h2⟩ := cntX_ok x a d ha (by omega)
      obtain ⟨h3, h4, h5⟩ := cntL_ok l (cntX x a d) d (by omega) h
      refine ⟨by rw [okL, h1, h3]; rfl, by omega, ?_⟩
      rw [List.length_cons]; omega
end
theorem valid_ok {x : Ex} (h : validX x = true) : okX x = true := (cntX_ok x 400 60 (by omega) (by unfold validX at h; simpa using h)).1
def findV (vs : List Var) (s : ByteArray) : Int := match vs.findIdx? (fun x => x.name.toList == s.toList) with | some i => (i : Int) | none => -1
def kindAt (vs : List Var) (i : Int) : Int := (vs[i.toNat]?.map Var.kind).getD 0
def typO (vs : List Var) (x : Ex) (ks : List Int) : Int × Int :=
  if x.op = 1 then (x.v.kind, 0)
  else if x.op = 2 then (if findV vs x.s < 0 then (0, 8) else (kindAt vs (findV vs x.s), 0))
  else if x.op = 9 ∨ x.op = 10 ∨ x.op = 11 then (if ks.all (· == 2) then (2, 0) else (0, 11))
  else if x.op = 7 ∨ x.op = 8 then (if ks.all (· == 2) then (1, 0) else (0, 11))
  else if x.op = 3 ∨ x.op = 4 ∨ x.op = 5 then (if ks.all (· == 1) then (1, 0) else (0, 11))
  else if x.op = 12 then (if ks.getD 0 0 = 1 ∧ ks.getD 1 0 = ks.getD 2 0 then (ks.getD 1 0, 0) else (0, 11))
  else (if ks.all (· == ks.getD 0 0) then (1, 0) else (0, 11))
mutual
def typX (vs : List Var) : Ex → Int × Int
  | .mk o v s l => if (typL vs l).2 ≠ 0 then (0, (typL vs l).2) else typO vs (.mk o v s l) (typL vs l).1
def typL (vs : List Var) : List Ex → List Int × Int
  | [] => ([], 0)
  | x :: l => if (typX vs x).2 ≠ 0 then ([], (typX vs x).2) else if (typL vs l).2 ≠ 0 then ([], (typL vs l).2) else ((typX vs x).1 :: (typL vs l).1, 0)
end
theorem typX_eq (vs : List Var) (x : Ex) : typX vs x = if (typL vs x.l).2 ≠ 0 then (0, (typL vs x.l).2) else typO vs x (typL vs x.l).1 := by cases x; rw [typX]; rfl
theorem typL_nil (vs : List Var) : typL vs [] = ([], 0) := by rw [typL]
theorem typL_cons (vs : List Var) (x : Ex) (l : List Ex) : typL vs (x :: l) = if (typX vs x).2 ≠ 0 then ([], (typX vs x).2) else if (typL vs l).2 ≠ 0 then ([], (typL vs l).2) else ((typX vs x).1 :: (typL vs l).1, 0) := by rw [typL]
theorem typL_ok {vs : List Var} {l : List Ex} (h : (typL vs l).2 = 0) : (typL vs l).1 = l.map (fun x => (typX vs x).1) ∧ ∀ x ∈ l, (typX vs x).2 = 0 := by
  induction l with
  | nil => rw [typL_nil]; exact ⟨rfl, fun x hx => by simp at hx⟩
  | cons x l ih =>
    rw [typL_cons] at h ⊢
    by_cases h1 : (typX vs x).2 ≠ 0
    · rw [if_pos h1] at h; exact absurd h h1
    · rw [if_neg h1] at h ⊢
      by_cases h2 : (typL vs l).2 ≠ 0
      · rw [if_pos h2] at h; exact absurd h h2
      · rw [if_neg h2] at h ⊢
        obtain ⟨i1, i2⟩ := ih (by simpa using h2)
        refine ⟨by rw [i1]; rfl, fun y hy => ?_⟩
        rcases List.mem_cons.1 hy with rfl | hy
        · simpa using h1
        · exact i2 y hy
def givenE (vs : List Var) (x : Ex) : Int × Int := if validX x && varsB vs then typX vs x else (0, 1)
def truthV (b : Bool) : Val := ⟨1, if b then 1 else 0, emptyS⟩
def numV (n : Int) : Option Val := if numB n then some ⟨2, n, emptyS⟩ else none
def varV (vs : List Var) (vals : List Val) (s : ByteArray) : Val := vals.getD (findV vs s).toNat noV
def evO (vs : List Var) (vals : List Val) (x : Ex) (es : List (Option Val)) : Option Val :=
  if x.op = 1 then some x.v
  else if x.op = 2 then some (varV vs vals x.s)
  else match es.getD 0 none with
  | none => none
  | some a =>
    if x.op = 3 then some (truthV (decide (a.n = 0)))
    else if x.op = 4 then (if a.n = 1 then es.getD 1 none else some a)
    else if x.op = 5 then (if a.n = 1 then some a else es.getD 1 none)
    else if x.op = 12 then (if a.n = 1 then es.getD 1 none else es.getD 2 none)
    else if x.op = 13 then some (truthV ((x.l.drop 1).any fun y => decide (y.v = a)))
    else match es.getD 1 none with
    | none => none
    | some b =>
      if x.op = 6 then some (truthV (decide (a = b)))
      else if x.op = 7 then some (truthV (decide (a.n < b.n)))
      else if x.op = 8 then some (truthV (decide (a.n ≤ b.n)))
      else if x.op = 9 then numV (a.n + b.n)
      else if x.op = 10 then numV (a.n - b.n)
      else numV (a.n * b.n)
mutual
def evX (vs : List Var) (vals : List Val) : Ex → Option Val
  | .mk o v s l => evO vs vals (.mk o v s l) (evL vs vals l)
def evL (vs : List Var) (vals : List Val) : List Ex → List (Option Val)
  | [] => []
  | x :: l => evX vs vals x :: evL vs vals l
end
theorem evX_eq (vs : List Var) (vals : List Val) (x : Ex) : evX vs vals x = evO vs vals x (evL vs vals x.l) := by cases x; rw [evX]; rfl
theorem evL_eq (vs : List Var) (vals : List Val) (l : List Ex) : evL vs vals l = l.map (evX vs vals) := by
  induction l with
  | nil => rw [evL]; rfl
  | cons x l ih => rw [evL, ih]; rfl
def evalE (vs : List Var) (vals : List Val) (x : Ex) : Val × Int :=
  if (givenE vs x).2 ≠ 0 then (noV, (givenE vs x).2)
  else if (inAllE vs vals).2 = 0 ∧ (inAllE vs vals).1 = true then (match evX vs vals x with | some a => (a, 0) | none => (noV, 6))
  else (noV, 11)
theorem shape_len {x : Ex} (h : shapeX x = true) : (x.op = 1 → x.l.length = 0) ∧ (x.op = 2 → x.l.length = 0) ∧ (x.op = 3 → x.l.length = 1) ∧ (4 ≤ x.op ∧ x.op ≤ 11 → x.l.length = 2) ∧ (x.op = 12 → x.l.length = 3) ∧ (x.op = 13 → 2 ≤ x.l.length) ∧ 1 ≤ x.op ∧ x.op ≤ 13 := by
  unfold shapeX at h
  split at h
  · rename_i h1
    simp only [Bool.and_eq_true, decide_eq_true_eq] at h
    exact ⟨fun _ => h.1.1, fun _ => by omega, fun _ => by omega, fun _ => by omega, fun _ => by omega, fun _ => by omega, by omega, by omega⟩
  split at h
  · rename_i h1
    simp only [Bool.and_eq_true, decide_eq_true_eq] at h
    exact ⟨fun _ => by omega, fun _ => h.1.1.1, fun _ => by omega, fun _ => by omega, fun _ => by omega, fun _ => by omega, by omega, by omega⟩
  rw [Bool.and_eq_true] at h
  have h := h.2
  split at h
  · rw [decide_eq_true_eq] at h
    exact ⟨fun _ => by omega, fun _ => by omega, fun _ => h, fun _ => by omega, fun _ => by omega, fun _ => by omega, by omega, by omega⟩
  split at h
  · rw [decide_eq_true_eq] at h
    exact ⟨fun _ => by omega, fun _ => by omega, fun _ => by omega, fun _ => h, fun _ => by omega, fun _ => by omega, by omega, by omega⟩
  split at h
  · rw [decide_eq_true_eq] at h
    exact ⟨fun _ => by omega, fun _ => by omega, fun _ => by omega, fun _ => by omega, fun _ => h, fun _ => by omega, by omega, by omega⟩
  split at h
  · rw [Bool.and_eq_true, decide_eq_true_eq] at h
    exact ⟨fun _ => by omega, fun _ => by omega, fun _ => by omega, fun _ => by omega, fun _ => by omega, fun _ => h.1, by omega, by omega⟩
  · cases h
theorem truth_valid (b : Bool) : validV (truthV b) = true := by cases b <;> decide +kernel
theorem numV_some {n : Int} {a : Val} (h : numV n = some a) : a = ⟨2, n, emptyS⟩ ∧ numB n = true := by
  unfold numV at h
  split at h
  · rename_i h1; injection h with h; exact ⟨h.symm, h1⟩
  · cases h
theorem num_valid {n : Int} (h : numB n = true) : validV ⟨2, n, emptyS⟩ = true := by
  show (numB n && noS emptyS) = true
  rw [h, show noS emptyS = true by decide +kernel]; rfl
end Go.Proofs.YtijmnenojbfdnaaGreatDoor

namespace Go.Proofs.YtijmnenojbfdnaaGreatDoor
open Go.RowKit
def isB (L : List Tok) (i : Nat) (s : ByteArray) : Bool := match L[i]? with
  | some t => decide (t.text = s) && (decide (t.kind = 4) || decide (t.kind = 1))
  | none => false
def kTrue : ByteArray := ⟨#[116, 114, 117, 101]⟩
def kFalse : ByteArray := ⟨#[102, 97, 108, 115, 101]⟩
def kMinus : ByteArray := ⟨#[45]⟩
def kIf : ByteArray := ⟨#[105, 102]⟩
def kNot : ByteArray := ⟨#[110, 111, 116]⟩
def kIn : ByteArray := ⟨#[105, 110]⟩
def kOpen : ByteArray := ⟨#[40]⟩
def kShut : ByteArray := ⟨#[41]⟩
def kLeft : ByteArray := ⟨#[123]⟩
def kRight : ByteArray := ⟨#[125]⟩
def kComma : ByteArray := ⟨#[44]⟩
def conB (L : List Tok) (i : Nat) : Option (Option (Ex × Nat)) := match L[i]? with
  | none => none
  | some t =>
    if t.kind = 2 then some (some (.mk 1 ⟨2, t.n, ⟨#[]⟩⟩ ⟨#[]⟩ [], i + 1))
    else if t.kind = 3 then none
    else if isB L i kTrue || isB L i kFalse || isB L i kMinus then none
    else some none
def pSetB (L : List Tok) : Nat → Nat → List Ex → Option (List Ex × Nat)
  | 0, _, _ => none
  | f + 1, i, acc => match conB L i with
    | some (some (c, i')) => if isB L i' kComma then pSetB L f (i' + 1) (acc ++ [c]) else if isB L i' kRight then some (acc ++ [c], i' + 1) else none
    | _ => none
def signL : List ByteArray := [⟨#[97, 110, 100]⟩, ⟨#[111, 114]⟩, ⟨#[61]⟩, ⟨#[60]⟩, ⟨#[60, 61]⟩, ⟨#[43]⟩, ⟨#[45]⟩, ⟨#[42]⟩]
def opB (L : List Tok) (i : Nat) : Nat := if isB L i kIn then 13 else match signL.findIdx? (isB L i) with
  | some k => k + 4
  | none => 0
def levB (op : Nat) : Nat := if op = 12 then 1 else if op = 5 then 2 else if op = 4 then 3 else if op = 3 then 4 else if op = 6 ∨ op = 7 ∨ op = 8 ∨ op = 13 then 5 else if op = 9 ∨ op = 10 then 6 else if op = 11 then 7 else 8
def askB (op : Nat) : Nat := if levB op = 5 then 6 else levB op
def nodeB (op : Nat) (l : List Ex) : Ex := .mk op ⟨0, 0, ⟨#[]⟩⟩ ⟨#[]⟩ l
mutual
def exB (L : List Tok) : Nat → Nat → Nat → Option (Ex × Nat)
  | 0, _, _ => none
  | f + 1, i, least =>
    if least ≤ 1 ∧ isB L i kIf = true then none
    else if least ≤ 4 ∧ isB L i kNot = true then
      match exB L f (i + 1) 4 with
      | some (x, i') => loopB L f i' least (nodeB 3 [x]) 4
      | none => none
    else match atB L f i with
      | some (x, i') => loopB L f i' least x 8
      | none => none
def loopB (L : List Tok) : Nat → Nat → Nat → Ex → Nat → Option (Ex × Nat)
  | 0, _, _, _, _ => none
  | f + 1, i, least, x, top =>
    if opB L i = 0 ∨ levB (opB L i) < least ∨ top < askB (opB L i) then some (x, i)
    else if opB L i = 13 then
      (if isB L (i + 1) kLeft then match pSetB L f (i + 2) [x] with
        | some (l, i') => loopB L f i' least (nodeB 13 l) (levB 13)
        | none => none
      else none)
    else match exB L f (i + 1) (levB (opB L i) + 1) with
      | some (y, i') => loopB L f i' least (nodeB (opB L i) [x, y]) (levB (opB L i))
      | none => none
def atB (L : List Tok) : Nat → Nat → Option (Ex × Nat)
  | 0, _ => none
  | f + 1, i => match conB L i with
    | none => none
    | some (some r) => some r
    | some none => match L[i]? with
      | none => none
      | some t =>
        if t.kind = 1 ∧ keyB t.text = false then some (.mk 2 ⟨0, 0, ⟨#[]⟩⟩ t.text [], i + 1)
        else if isB L i kOpen then match exB L f (i + 1) 1 with
          | some (x, i') => if isB L i' kShut then some (x, i' + 1) else none
          | none => none
        else none
end
def varN : Ex := .mk 2 ⟨0, 0, ⟨#[]⟩⟩ ⟨#[110]⟩ []
def num (z : Int) : Ex := .mk 1 ⟨2, z, ⟨#[]⟩⟩ ⟨#[]⟩ []
def exA : Ex := nodeB 3 [nodeB 6 [nodeB 9 [varN, num 1], num 3]]
def exC : Ex := nodeB 4 [nodeB 8 [nodeB 11 [varN, varN], num 4], nodeB 3 [nodeB 13 [varN, num 1]]]
theorem pars1 : exB toks1 20 0 1 = some (exA, 6) := by kernel_rfl
theorem pars2 : exB toks2 20 0 1 = some (exC, 14) := by kernel_rfl
end Go.Proofs.YtijmnenojbfdnaaGreatDoor

namespace Go.Proofs.YtijmnenojbfdnaaGreatDoor
open Go.RowKit
def kAt (l : List Ex) (i : Nat) : Ex := l.getD i (.mk 0 ⟨0, 0, ⟨#[]⟩⟩ ⟨#[]⟩ [])
def signOf (op : Int) : List UInt8 := (signL.getD (op.toNat - 4) ⟨#[]⟩).data.toList
def joinB (sep : List UInt8) : List (List UInt8) → List UInt8
  | [] => []
  | [a] => a
  | a :: l => a ++ sep ++ joinB sep l
def txB : Nat → Ex → Nat → List UInt8
  | 0, _, _ => []
  | f + 1, x, asks =>
    let own := levB x.op.toNat
    let body := if x.op = 1 then (textE x.v).1.data.toList
      else if x.op = 2 then x.s.data.toList
      else if x.op = 3 then [110, 111, 116, 32] ++ txB f (kAt x.l 0) 4
      else if x.op = 12 then [105, 102, 32] ++ txB f (kAt x.l 0) 1 ++ [32, 116, 104, 101, 110, 32] ++ txB f (kAt x.l 1) 1 ++ [32, 101, 108, 115, 101, 32] ++ txB f (kAt x.l 2) 1
      else if x.op = 13 then txB f (kAt x.l 0) 6 ++ [32, 105, 110, 32, 123] ++ joinB [44, 32] ((x.l.drop 1).map fun y => txB f y 0) ++ [125]
      else txB f (kAt x.l 0) (if own = 5 then 6 else own) ++ [32] ++ signOf x.op ++ [32] ++ txB f (kAt x.l 1) (own + 1)
    if own < asks then [40] ++ body ++ [41] else body
theorem tx1 : txB 10 exA 0 = ex1.data.toList := by kernel_rfl
end Go.Proofs.YtijmnenojbfdnaaGreatDoor

namespace Go.Proofs.YtijmnenojbfdnaaGreatDoor
open Go.RowKit
mutual
/-- The number of nodes. -/
def nodX : Ex → Nat
  | .mk _ _ _ l => 1 + nodL l
def nodL : List Ex → Nat
  | [] => 0
  | x :: l => nodX x + nodL l
end
theorem nodX_eq (x : Ex) : nodX x = 1 + nodL x.l := by cases x; rw [nodX]; rfl
theorem nodX_pos (x : Ex) : 1 ≤ nodX x := by rw [nodX_eq]; omega
theorem nodL_nil : nodL [] = 0 := by rw [nodL]
theorem nodL_cons (x : Ex) (l : List Ex) : nodL (x :: l) = nodX x + nodL l := by rw [nodL]
mutual
theorem cntX_nod : ∀ (x : Ex) (a d : Int), 0 ≤ cntX x a d → (nodX x : Int) = a - cntX x a d
  | .mk o v s l, a, d, h => by
    rw [cntX] at h ⊢
    split at h
    · omega
    · rename_i hc
      rw [if_neg hc]
      have := cntL_nod l (a - 1) (d - 1) h
      rw [nodX]
      push_cast
      omega
theorem cntL_nod : ∀ (l : List Ex) (a d : Int), 0 ≤ cntL l a d → (nodL l : Int) = a - cntL l a d
  | [], a, d, h => by rw [cntL, nodL]; omega
  | x :: l, a, d, h => by
    rw [cntL] at h ⊢
    split at h
    · omega
    · rename_i hc
      rw [if_neg hc]
      have h1 := cntX_nod x a d (by omega)
      have h2 := cntL_nod l (cntX x a d) d h
      rw [nodL]
      push_cast
      omega
end
theorem valid_nod {x : Ex} (h : validX x = true) : nodX x ≤ 400 := by
  have h0 : 0 ≤ cntX x 400 60 := by unfold validX at h; simpa using h
  have := cntX_nod x 400 60 h0
  omega
theorem textE_len {v : Val} : (textE v).1.data.toList.length ≤ 500 := by
  unfold textE
  split
  · rename_i h
    show (textV v).data.toList.length ≤ 500
    unfold textV
    split
    · split <;> decide
    · rename_i h1
      split
      · rename_i h2
        unfold validV at h
        rw [if_neg h1, if_pos h2, Bool.and_eq_true] at h
        have hn := h.1
        unfold numB at hn
        rw [decide_eq_true_eq] at hn
        have := Lib.itoa_length_le v.n (by omega) (by omega)
        show (Lib.itoa v.n).length ≤ 500
        omega
      · rename_i h2
        obtain ⟨_, _, h3⟩ := valid3 h h1 h2
        unfold textB at h3
        rw [Bool.and_eq_true, decide_eq_true_eq] at h3
        have := escB_len v.s.data.toList
        have hs : v.s.data.toList.length = v.s.size := Array.length_toList
        show (quoteL v.s.data.toList).length ≤ 500
        unfold quoteL
        rw [List.length_cons, List.length_append]
        show _ + 1 + 1 ≤ 500
        omega
  · exact Nat.zero_le _
theorem kAt_one {l : List Ex} (h : l.length = 1) : nodL l = nodX (kAt l 0) := by
  match l, h with
  | [a], _ => rw [nodL_cons, nodL_nil]; rfl
theorem kAt_two {l : List Ex} (h : l.length = 2) : nodL l = nodX (kAt l 0) + nodX (kAt l 1) := by
  match l, h with
  | [a, b], _ => rw [nodL_cons, nodL_cons, nodL_nil]; rfl
theorem kAt_three {l : List Ex} (h : l.length = 3) : nodL l = nodX (kAt l 0) + nodX (kAt l 1) + nodX (kAt l 2) := by
  match l, h with
  | [a, b, c], _ => rw [nodL_cons, nodL_cons, nodL_cons, nodL_nil]; show _ = nodX a + nodX b + nodX c; omega
theorem kAt_mem {l : List Ex} {k : Nat} (h : k < l.length) : kAt l k ∈ l := by
  unfold kAt
  rw [List.getD_eq_getElem?_getD, List.getElem?_eq_getElem h]
  exact List.getElem_mem h
theorem joinB_len (sep : List UInt8) : ∀ l : List (List UInt8), (joinB sep l).length ≤ (l.map fun a => a.length + sep.length).foldr (· + ·) 0
  | [] => by simp [joinB]
  | [a] => by simp [joinB]
  | a :: b :: l => by
    have := joinB_len sep (b :: l)
    show (a ++ sep ++ joinB sep (b :: l)).length ≤ _
    rw [List.length_append, List.length_append]
    simp only [List.map_cons, List.foldr_cons] at this ⊢
    omega
theorem sum_le {f : Ex → Nat} : ∀ {l : List Ex}, (∀ x ∈ l, f x + 2 ≤ 1000 * nodX x) → (l.map fun x => f x + 2).foldr (· + ·) 0 ≤ 1000 * nodL l
  | [], _ => by simp
  | x :: l, h => by
    have h1 := h x (by simp)
    have h2 := sum_le (l := l) (fun y hy => h y (by simp [hy]))
    rw [nodL_cons]
    simp only [List.map_cons, List.foldr_cons]
    omega
theorem nodL_drop {l : List Ex} (h : 1 ≤ l.length) : nodL l = nodX (kAt l 0) + nodL (l.drop 1) := by
  match l, h with
  | a :: l, _ => rw [nodL_cons]; rfl
theorem txB_len : ∀ (f : Nat) (x : Ex) (asks : Nat), okX x = true → (txB f x asks).length + 100 ≤ 1000 * nodX x
  | 0, x, asks, _ => by have := nodX_pos x; show 0 + 100 ≤ _; omega
  | f + 1, x, asks, hok => by
    have hn := nodX_eq x
    have hok0 := hok
    rw [okX_eq, Bool.and_eq_true, Bool.and_eq_true] at hok
    obtain ⟨⟨hs, _⟩, hl⟩ := hok
    have hk : ∀ k asks, k < x.l.length → (txB f (kAt x.l k) asks).length + 100 ≤ 1000 * nodX (kAt x.l k) := fun k a h => txB_len f _ a (okL_mem hl _ (kAt_mem h))
    obtain ⟨s1, s2, s3, s4, s5, s6, s7, s8⟩ := shape_len hs
    have key : ∀ body : List UInt8, body.length + 102 ≤ 1000 * nodX x → (if levB x.op.toNat < asks then [40] ++ body ++ [41] else body).length + 100 ≤ 1000 * nodX x := by
      intro body hb
      split
      · rw [List.length_append, List.length_append]; show 1 + _ + 1 + 100 ≤ _; omega
      · omega
    unfold txB
    dsimp only
    apply key
    split
    · have := @textE_len x.v; omega
    split
    · rename_i _ h2
      unfold shapeX at hs
      rw [if_neg (by omega), if_pos h2] at hs
      simp only [Bool.and_eq_true] at hs
      have hnm := hs.1.2
      unfold isNameB at hnm
      simp only [Bool.and_eq_true, decide_eq_true_eq] at hnm
      have : x.s.data.toList.length = x.s.size := Array.length_toList
      omega
    split
    · rename_i _ _ h3
      have e := s3 h3
      have := hk 0 4 (by omega)
      have := kAt_one e
      rw [List.length_append]; show 4 + _ + 102 ≤ _; omega
    split
    · rename_i h12
      have e := s5 h12
      have a0 := hk 0 1 (by omega)
      have a1 := hk 1 1 (by omega)
      have a2 := hk 2 1 (by omega)
      have := kAt_three e
      simp only [List.length_append, List.length_cons, List.length_nil]
      omega
    split
    · rename_i h13
      have e := s6 h13
      have a0 := hk 0 6 (by omega)
      have hd := nodL_drop (show 1 ≤ x.l.length by omega)
      have hj := joinB_len [44, 32] ((x.l.drop 1).map fun y => txB f y 0)
      rw [List.map_map] at hj
      have hsum := sum_le (f := fun y => (txB f y 0).length) (l := x.l.drop 1) (fun y hy => by
        have := txB_len f y 0 (okL_mem hl _ (List.mem_of_mem_drop hy)); omega)
      have hj2 : (joinB [44, 32] ((x.l.drop 1).map fun y => txB f y 0)).length ≤ 1000 * nodL (x.l.drop 1) := Nat.le_trans hj hsum
      simp only [List.length_append, List.length_cons, List.length_nil]
      omega
    · rename_i n1 n2 n3 n12 n13
      have e := s4 (by omega)
      have a0 := hk 0 (if levB x.op.toNat = 5 then 6 else levB x.op.toNat) (by omega)
      have a1 := hk 1 (levB x.op.toNat + 1) (by omega)
      have := kAt_two e
      have hsg : (signOf x.op).length ≤ 10 := by
        unfold signOf signL
        obtain ⟨k, hk'⟩ : ∃ k, x.op.toNat - 4 = k := ⟨_, rfl⟩
        rw [hk']
        match k with
        | 0 | 1 | 2 | 3 | 4 | 5 | 6 | 7 => decide
        | k + 8 => simp
      simp only [List.length_append, List.length_cons, List.length_nil]
      omega
theorem valid_txB {x : Ex} (h : validX x = true) (f asks : Nat) : (txB f x asks).length ≤ 400000 := by
  have := txB_len f x asks (valid_ok h)
  have := valid_nod h
  omega
end Go.Proofs.YtijmnenojbfdnaaGreatDoor

namespace Go.Proofs.YtijmnenojbfdnaaGreatDoor
open Go.RowKit
structure Asg (vs : List Var) (vals : List Val) : Prop where
  len : vals.length = vs.length
  each : ∀ (i : Nat) (x : Var) (v : Val), vs[i]? = some x → vals[i]? = some v → v.kind = x.kind ∧ validV v = true
theorem find_at {vs : List Var} {s : ByteArray} (h : ¬ findV vs s < 0) : ∃ (i : Nat) (x : Var), findV vs s = i ∧ vs[i]? = some x := by
  unfold findV at h ⊢
  cases hf : vs.findIdx? (fun x => x.name.toList == s.toList) with
  | none => rw [hf] at h; exact absurd (by decide) h
  | some i =>
    rw [List.findIdx?_eq_some_iff_getElem] at hf
    obtain ⟨h1, _⟩ := hf
    exact ⟨i, vs[i], rfl, List.getElem?_eq_getElem h1⟩
theorem es_at {f : Ex → Option Val} {l : List Ex} {i : Nat} {a : Val} (h : (l.map f).getD i none = some a) : ∃ hi : i < l.length, f l[i] = some a := by
  rcases Nat.lt_or_ge i l.length with hi | hi
  · refine ⟨hi, ?_⟩
    rw [List.getD_eq_getElem?_getD, List.getElem?_map, List.getElem?_eq_getElem hi] at h
    exact h
  · rw [List.getD_eq_getElem?_getD, List.getElem?_eq_none (by simpa using hi)] at h
    cases h
theorem ks_at {f : Ex → Int} {l : List Ex} {i : Nat} (hi : i < l.length) : (l.map f).getD i 0 = f l[i] := by
  rw [List.getD_eq_getElem?_getD, List.getElem?_map, List.getElem?_eq_getElem hi]; rfl
theorem all_at {f : Ex → Int} {l : List Ex} {k : Int} (h : (l.map f).all (· == k) = true) {i : Nat} (hi : i < l.length) : f l[i] = k := by
  rw [List.all_eq_true] at h
  have := h (f l[i]) (List.mem_map.2 ⟨_, List.getElem_mem hi, rfl⟩)
  exact eq_of_beq this
theorem ev_node {vs : List Var} {vals : List Val} (hA : Asg vs vals) (x : Ex) (hs : shapeX x = true)
    (ih : ∀ y ∈ x.l, (typX vs y).2 = 0 → ∀ a, evX vs vals y = some a → a.kind = (typX vs y).1 ∧ validV a = true)
    (ht : (typX vs x).2 = 0) (a : Val) (ha : evX vs vals x = some a) : a.kind = (typX vs x).1 ∧ validV a = true := by
  obtain ⟨l1, l2, l3, l4, l5, l6, o1, o2⟩ := shape_len hs
  rw [typX_eq] at ht ⊢
  rw [evX_eq, evL_eq] at ha
  by_cases h0 : (typL vs x.l).2 ≠ 0
  · rw [if_pos h0] at ht; exact absurd ht h0
  rw [if_neg h0] at ht ⊢
  obtain ⟨k1, k2⟩ := typL_ok (vs := vs) (l := x.l) (by simpa using h0)
  rw [k1] at ht ⊢
  have ihat : ∀ (i : Nat) (hi : i < x.l.length) (b : Val), evX vs vals x.l[i] = some b → b.kind = (typX vs x.l[i]).1 ∧ validV b = true :=
    fun i hi b hb => ih _ (List.getElem_mem hi) (k2 _ (List.getElem_mem hi)) b hb
  unfold typO at ht ⊢
  unfold evO at ha
  by_cases c1 : x.op = 1
  · rw [if_pos c1] at ht ha ⊢
    injection ha with ha
    subst ha
    refine ⟨rfl, ?_⟩
    unfold shapeX at hs
    rw [if_pos c1] at hs
    simp only [Bool.and_eq_true] at hs
    exact hs.2
  rw [if_neg c1] at ht ha ⊢
  by_cases c2 : x.op = 2
  · rw [if_pos c2] at ht ha ⊢
    by_cases hf : findV vs x.s < 0
    · rw [if_pos hf] at ht; cases ht
    rw [if_neg hf] at ht ⊢
    obtain ⟨i, y, h1, h2⟩ := find_at hf
    injection ha with ha
    have hi : i < vals.length := by
      rw [hA.len]
      rcases Nat.lt_or_ge i vs.length with h | h
      · exact h
      · rw [List.getElem?_eq_none h] at h2; cases h2
    have hv : varV vs vals x.s = vals[i] := by
      unfold varV
      rw [h1, Int.toNat_natCast, List.getD_eq_getElem?_getD, List.getElem?_eq_getElem hi]; rfl
    have hk : kindAt vs (findV vs x.s) = y.kind := by unfold kindAt; rw [h1, Int.toNat_natCast, h2]; rfl
    rw [hv] at ha
    rw [hk, ← ha]
    exact hA.each i y _ h2 (List.getElem?_eq_getElem hi)
  rw [if_neg c2] at ht ha ⊢
  cases he : (x.l.map (evX vs vals)).getD 0 none with
  | none => rw [he] at ha; cases ha
  | some b =>
    rw [he] at ha
    simp only at ha
    obtain ⟨hi0, hb⟩ := es_at he
    have hb' := ihat 0 hi0 b hb
    by_cases c9 : x.op = 9 ∨ x.op = 10 ∨ x.op = 11
    · rw [if_pos c9] at ht ⊢
      split at ht
      · rename_i hall
        rw [if_pos hall]
        rw [if_neg (by omega), if_neg (by omega), if_neg (by omega), if_neg (by omega), if_neg (by omega)] at ha
        cases he1 : (x.l.map (evX vs vals)).getD 1 none with
        | none => rw [he1] at ha; cases ha
        | some c =>
          rw [he1] at ha
          simp only at ha
          rw [if_neg (by omega), if_neg (by omega), if_neg (by omega)] at ha
          split at ha
          · obtain ⟨e, h⟩ := numV_some ha; subst e; exact ⟨rfl, num_valid h⟩
          split at ha
          · obtain ⟨e, h⟩ := numV_some ha; subst e; exact ⟨rfl, num_valid h⟩
          · obtain ⟨e, h⟩ := numV_some ha; subst e; exact ⟨rfl, num_valid h⟩
      · cases ht
    rw [if_neg c9] at ht ⊢
    by_cases c7 : x.op = 7 ∨ x.op = 8
    · rw [if_pos c7] at ht ⊢
      split at ht
      · rename_i hall
        rw [if_pos hall]
        rw [if_neg (by omega), if_neg (by omega), if_neg (by omega), if_neg (by omega), if_neg (by omega)] at ha
        cases he1 : (x.l.map (evX vs vals)).getD 1 none with
        | none => rw [he1] at ha; cases ha
        | some c =>
          rw [he1] at ha
          simp only at ha
          rw [if_neg (by omega)] at ha
          split at ha
          · injection ha with ha; subst ha; exact ⟨rfl, truth_valid _⟩
          · rw [if_pos (by omega)] at ha
            injection ha with ha; subst ha; exact ⟨rfl, truth_valid _⟩
      · cases ht
    rw [if_neg c7] at ht ⊢
    by_cases c3 : x.op = 3 ∨ x.op = 4 ∨ x.op = 5
    · rw [if_pos c3] at ht ⊢
      split at ht
      · rename_i hall
        rw [if_pos hall]
        have hb1 : b.kind = 1 ∧ validV b = true := ⟨hb'.1.trans (all_at hall hi0), hb'.2⟩
        split at ha
        · injection ha with ha; subst ha; exact ⟨rfl, truth_valid _⟩
        have hsec : ∀ c, (x.l.map (evX vs vals)).getD 1 none = some c → c.kind = 1 ∧ validV c = true := by
          intro c hc
          obtain ⟨hi1, hc⟩ := es_at hc
          have := ihat 1 hi1 c hc
          exact ⟨this.1.trans (all_at hall hi1), this.2⟩
        split at ha
        · split at ha
          · exact hsec _ ha
          · injection ha with ha; subst ha; exact hb1
        · rw [if_pos (by omega)] at ha
          split at ha
          · injection ha with ha; subst ha; exact hb1
          · exact hsec _ ha
      · cases ht
    rw [if_neg c3] at ht ⊢
    by_cases c12 : x.op = 12
    · rw [if_pos c12] at ht ⊢
      split at ht
      · rename_i hall
        rw [if_pos hall]
        rw [if_neg (by omega), if_neg (by omega), if_neg (by omega), if_pos c12] at ha
        have h3 := l5 c12
        split at ha
        · obtain ⟨hi1, hc⟩ := es_at ha
          have := ihat 1 hi1 a hc
          exact ⟨by rw [this.1, ks_at hi1], this.2⟩
        · obtain ⟨hi2, hc⟩ := es_at ha
          have := ihat 2 hi2 a hc
          exact ⟨by rw [this.1, hall.2, ks_at hi2], this.2⟩
      · cases ht
    rw [if_neg c12] at ht ⊢
    split at ht
    · rename_i hall
      rw [if_pos hall]
      rw [if_neg (by omega), if_neg (by omega), if_neg (by omega), if_neg c12] at ha
      split at ha
      · injection ha with ha; subst ha; exact ⟨rfl, truth_valid _⟩
      · cases he1 : (x.l.map (evX vs vals)).getD 1 none with
        | none => rw [he1] at ha; cases ha
        | some c =>
          rw [he1] at ha
          simp only at ha
          rw [if_pos (by omega)] at ha
          injection ha with ha; subst ha; exact ⟨rfl, truth_valid _⟩
    · cases ht
mutual
theorem ev_typed {vs : List Var} {vals : List Val} (hA : Asg vs vals) : ∀ (x : Ex), okX x = true → (typX vs x).2 = 0 → ∀ a, evX vs vals x = some a → a.kind = (typX vs x).1 ∧ validV a = true
  | .mk o v s l, hok, ht, a, ha => by
    rw [okX, Bool.and_eq_true, Bool.and_eq_true] at hok
    exact ev_node hA (.mk o v s l) hok.1.1 (ev_typedL hA l hok.2) ht a ha
theorem ev_typedL {vs : List Var} {vals : List Val} (hA : Asg vs vals) : ∀ (l : List Ex), okL l = true → ∀ y ∈ l, (typX vs y).2 = 0 → ∀ a, evX vs vals y = some a → a.kind = (typX vs y).1 ∧ validV a = true
  | [], _, y, hy, _, _, _ => by simp at hy
  | x :: l, hok, y, hy, ht, a, ha => by
    rw [okL, Bool.and_eq_true] at hok
    rcases List.mem_cons.1 hy with h | h
    · rw [h] at ht ha ⊢; exact ev_typed hA x hok.1 ht a ha
    · exact ev_typedL hA l hok.2 y h ht a ha
end
theorem truth_range {a : Val} (h : validV a = true) (hk : a.kind = 1) : a.n = 0 ∨ a.n = 1 := by
  unfold validV at h
  rw [if_pos hk] at h
  simp only [Bool.and_eq_true, decide_eq_true_eq] at h
  exact h.1
theorem num_range {a : Val} (h : validV a = true) (hk : a.kind = 2) : -4503599627370496 ≤ a.n ∧ a.n ≤ 4503599627370496 := by
  unfold validV at h
  rw [if_neg (by omega), if_pos hk] at h
  simp only [Bool.and_eq_true] at h
  have := h.1
  unfold numB at this
  simpa using this
theorem asg_of {vs : List Var} {vals : List Val} (h : (inAllE vs vals).2 = 0 ∧ (inAllE vs vals).1 = true) : Asg vs vals := by
  unfold inAllE at h
  split at h
  · rename_i hok
    obtain ⟨_, h⟩ := h
    unfold okB at hok
    rw [Bool.and_eq_true] at hok
    have h : assignedB vs vals = true := h
    unfold assignedB at h
    rw [Bool.and_eq_true, decide_eq_true_eq] at h
    refine ⟨h.1, fun i x v hx hv => ?_⟩
    have hz : (vs.zip vals)[i]? = some (x, v) := by rw [List.getElem?_zip_eq_some]; exact ⟨hx, hv⟩
    have hp := List.all_eq_true.1 h.2 _ (List.mem_of_getElem? hz)
    refine ⟨?_, List.all_eq_true.1 hok.2 _ (List.mem_of_getElem? hv)⟩
    rcases Classical.em (v.kind = x.kind) with e | e
    · exact e
    · have : placeV x v = -1 := if_pos e
      simp only at hp
      rw [this] at hp
      simp at hp
  · cases h.1
end Go.Proofs.YtijmnenojbfdnaaGreatDoor

namespace Go.Proofs.YtijmnenojbfdnaaGreatDoor
open Go.RowKit
def RExN : Nat → ElemR Ex
  | 0 => fun _ _ _ _ => False
  | n + 1 => fun D w x cs => ∃ lv, cs = [.int .i64 x.op, .int .i64 x.v.kind, .int .i64 x.v.n, .string x.v.s, .string x.s, lv] ∧ Fit x.op ∧ FitV x.v ∧ x.s.size ≤ maxLen ∧ Sl 6 (RExN n) D w lv x.l
theorem RExN.kept : ∀ n, ElemR.Kept (RExN n)
  | 0 => fun _ _ _ _ _ _ _ _ h => h
  | n + 1 => by
    rintro D D' w w' x cs hd hs ⟨lv, rfl, h1, h2, h3, h4⟩
    exact ⟨lv, rfl, h1, h2, h3, Sl.keep h4 (RExN.kept n) hd hs⟩
def SlE (n : Nat) := Sl 6 (RExN n)
def IsEx (n : Nat) (D : Nat → Prop) (w : World) (u : Value) (x : Ex) : Prop :=
  ∃ lv, u = .agg #[.int .i64 x.op, .int .i64 x.v.kind, .int .i64 x.v.n, .string x.v.s, .string x.s, lv] ∧ Fit x.op ∧ FitV x.v ∧ x.s.size ≤ maxLen ∧ SlE n D w lv x.l
section
variable {D : Nat → Prop} {w w' : World} {u : Value} {n : Nat}
theorem IsEx.below {x : Ex} {B B' : Nat} (h : IsEx n (Lt B) w u x) (hb : Below B w w') (hB : B ≤ B') : IsEx n (Lt B') w' u x := by
  obtain ⟨lv, e, h1, h2, h3, h4⟩ := h
  exact ⟨lv, e, h1, h2, h3, Sl.below h4 (RExN.kept n) hb hB⟩
theorem IsEx.now {x : Ex} (h : IsEx n (Lt w.heap.size) w u x) (hb : Below w.heap.size w w') : IsEx n (Lt w'.heap.size) w' u x := h.below hb hb.size
theorem SlE.now {zs : List Ex} (h : SlE n (Lt w.heap.size) w u zs) (hb : Below w.heap.size w w') : SlE n (Lt w'.heap.size) w' u zs := Sl.below h (RExN.kept n) hb hb.size
theorem SlE.open_ {zs : List Ex} (h : SlE n D w u zs) : ∃ A c, u = .slice A zs.length c ∧ zs.length ≤ c ∧ c ≤ 9223372036854775807 ∧ SlE n D w (.slice A zs.length c) zs := Sl.open_ h
theorem Sl.at6 {α : Type} {R : ElemR α} {xs : List α} {A : Option Addr} {m c k : Nat} (h : Sl 6 R D w (.slice A m c) xs) (hk : k < m) :
    ∃ b o x u0 u1 u2 u3 u4 u5, A = some ⟨b, o, none⟩ ∧ D b ∧ xs[k]? = some x ∧ R D w x [u0, u1, u2, u3, u4, u5] ∧ w.cell? ⟨b, o + k * 6, none⟩ = some u0 ∧ w.cell? ⟨b, o + k * 6 + 1, none⟩ = some u1 ∧ w.cell? ⟨b, o + k * 6 + 2, none⟩ = some u2 ∧ w.cell? ⟨b, o + k * 6 + 3, none⟩ = some u3 ∧ w.cell? ⟨b, o + k * 6 + 4, none⟩ = some u4 ∧ w.cell? ⟨b, o + k * 6 + 5, none⟩ = some u5 := by
  obtain ⟨A', c', hv, h1, h2, h3⟩ := h
  injection hv with hA hn hc
  subst hA hn hc
  obtain ⟨b, o, cs, hA, hD, hl, hr, hcell⟩ := h3 k xs[k] (List.getElem?_eq_getElem hk)
  match cs, hl with
  | [u0, u1, u2, u3, u4, u5], _ => exact ⟨b, o, xs[k], u0, u1, u2, u3, u4, u5, hA, hD, List.getElem?_eq_getElem hk, hr, hcell 0 u0 rfl, hcell 1 u1 rfl, hcell 2 u2 rfl, hcell 3 u3 rfl, hcell 4 u4 rfl, hcell 5 u5 rfl⟩
theorem SlE.at_ {zs : List Ex} {A : Option Addr} {m c k : Nat} (h : SlE n D w (.slice A m c) zs) (hk : k < m) :
    ∃ b o x lv n', n = n' + 1 ∧ A = some ⟨b, o, none⟩ ∧ D b ∧ zs[k]? = some x ∧ IsEx n' D w (.agg #[.int .i64 x.op, .int .i64 x.v.kind, .int .i64 x.v.n, .string x.v.s, .string x.s, lv]) x ∧ FitV x.v ∧ SlE n' D w lv x.l ∧
      w.cell? ⟨b, o + k * 6, none⟩ = some (.int .i64 x.op) ∧ w.cell? ⟨b, o + k * 6 + 1, none⟩ = some (.int .i64 x.v.kind) ∧ w.cell? ⟨b, o + k * 6 + 2, none⟩ = some (.int .i64 x.v.n) ∧ w.cell? ⟨b, o + k * 6 + 3, none⟩ = some (.string x.v.s) ∧ w.cell? ⟨b, o + k * 6 + 4, none⟩ = some (.string x.s) ∧ w.cell? ⟨b, o + k * 6 + 5, none⟩ = some lv := by
  cases n with
  | zero => obtain ⟨_, _, _, _, _, _, _, _, _, _, _, _, hr, _⟩ := Sl.at6 h hk; exact hr.elim
  | succ n' =>
    obtain ⟨b, o, x, u0, u1, u2, u3, u4, u5, hA, hD, hx, ⟨lv, hu, a1, a2, a3, a4⟩, h0, h1, h2, h3, h4, h5⟩ := Sl.at6 h hk
    injection hu with e0 hu; injection hu with e1 hu; injection hu with e2 hu; injection hu with e3 hu; injection hu with e4 hu; injection hu with e5 hu
    subst e0 e1 e2 e3 e4 e5
    exact ⟨b, o, x, u5, n', rfl, hA, hD, hx, ⟨u5, rfl, a1, a2, a3, a4⟩, a2, a4, h0, h1, h2, h3, h4, h5⟩
end
theorem RExN.up : ∀ (n m : Nat), n ≤ m → ∀ D w x cs, RExN n D w x cs → RExN m D w x cs
  | 0, _, _, _, _, _, _, h => h.elim
  | n + 1, 0, h, _, _, _, _, _ => absurd h (by omega)
  | n + 1, m + 1, h, D, w, x, cs, hr => by
    obtain ⟨lv, e, h1, h2, h3, A, c, hv, h4, h5, h6⟩ := hr
    refine ⟨lv, e, h1, h2, h3, A, c, hv, h4, h5, fun i y hy => ?_⟩
    obtain ⟨b, o, cs', hA, hD, hl, hr, hc⟩ := h6 i y hy
    exact ⟨b, o, cs', hA, hD, hl, RExN.up n m (by omega) _ _ _ _ hr, hc⟩
theorem SlE.up {n m : Nat} (h : n ≤ m) {D : Nat → Prop} {w : World} {u : Value} {zs : List Ex} (hs : SlE n D w u zs) : SlE m D w u zs := by
  obtain ⟨A, c, hv, h4, h5, h6⟩ := hs
  refine ⟨A, c, hv, h4, h5, fun i y hy => ?_⟩
  obtain ⟨b, o, cs', hA, hD, hl, hr, hc⟩ := h6 i y hy
  exact ⟨b, o, cs', hA, hD, hl, RExN.up n m h _ _ _ _ hr, hc⟩
theorem IsEx.up {n m : Nat} (h : n ≤ m) {D : Nat → Prop} {w : World} {u : Value} {x : Ex} (hs : IsEx n D w u x) : IsEx m D w u x := by
  obtain ⟨lv, e, h1, h2, h3, h4⟩ := hs
  exact ⟨lv, e, h1, h2, h3, h4.up h⟩
theorem mul_quo {a b n : Int} (hb : -4503599627370496 ≤ b ∧ b ≤ 4503599627370496) (h0 : b ≠ 0)
    (hn : n = IntKind.i64.wrap (a * b)) (hq : Int.tdiv n b = a) : n = a * b := by
  have h1 := Int.mul_tdiv_add_tmod n b
  rw [hq] at h1
  have h2 : (Int.tmod n b).natAbs < b.natAbs := by
    rw [Int.natAbs_tmod]
    exact Nat.mod_lt _ (by omega)
  rw [IntKind.wrap_i64] at hn
  rw [Int.mul_comm b a] at h1
  generalize a * b = p at *
  generalize Int.tmod n b = r at *
  omega
theorem mul_fits {a b : Int} (hb0 : b ≠ 0) (h : -4503599627370496 ≤ a * b ∧ a * b ≤ 4503599627370496) : IntKind.i64.wrap (a * b) = a * b ∧ Int.tdiv (a * b) b = a :=
  ⟨IntWalk.i64_in _ (by omega), Int.mul_tdiv_cancel a hb0⟩
end Go.Proofs.YtijmnenojbfdnaaGreatDoor

namespace Go.Proofs.YtijmnenojbfdnaaGreatDoor
open Go.RowKit
theorem key_or (s : ByteArray) : keyB s = ((s.toList == [97, 110, 100]) || (s.toList == [101, 108, 115, 101]) || (s.toList == [102, 97, 108, 115, 101]) || (s.toList == [105, 102]) || (s.toList == [105, 110]) || (s.toList == [110, 111, 116]) || (s.toList == [111, 114]) || (s.toList == [116, 104, 101, 110]) || (s.toList == [116, 114, 117, 101])) := by
  show (s.toList == [97, 110, 100] || (s.toList == [101, 108, 115, 101] || (s.toList == [102, 97, 108, 115, 101] || (s.toList == [105, 102] || (s.toList == [105, 110] || (s.toList == [110, 111, 116] || (s.toList == [111, 114] || (s.toList == [116, 104, 101, 110] || (s.toList == [116, 114, 117, 101] || false))))))))) = _
  simp only [Bool.or_assoc, Bool.or_false]
set_option maxHeartbeats 1000000 in
theorem key_any (s : ByteArray) (w : World) : Calls Tryz.prog 147 #[.string s] w fun e w' => e = .returned (.bool (keyB s)) ∧ w = w' := by
  have hk := key_or s
  have HK := Lib.hid hk
  clear hk
  go_enter Tryz.func147, Tryz.ntmps147
  generalize h0 : (s.toList == [97, 110, 100]) = q0
  cases q0
  rotate_left
  · have HE : Hid (keyB s = true) := by
      show _ = _
      rw [HK.out, h0]; simp
    go_wp2_with fail
    go_ret
    exact ⟨ret_bool HE.out.symm, rfl⟩
  generalize h1 : (s.toList == [101, 108, 115, 101]) = q1
  cases q1
  rotate_left
  · have HE : Hid (keyB s = true) := by
      show _ = _
      rw [HK.out, h0, h1]; simp
    go_wp2_with fail
    go_ret
    exact ⟨ret_bool HE.out.symm, rfl⟩
  generalize h2 : (s.toList == [102, 97, 108, 115, 101]) = q2
  cases q2
  rotate_left
  · have HE : Hid (keyB s = true) := by
      show _ = _
      rw [HK.out, h0, h1, h2]; simp
    go_wp2_with fail
    go_ret
    exact ⟨ret_bool HE.out.symm, rfl⟩
  generalize h3 : (s.toList == [105, 102]) = q3
  cases q3
  rotate_left
  · have HE : Hid (keyB s = true) := by
      show _ = _
      rw [HK.out, h0, h1, h2, h3]; simp
    go_wp2_with fail
    go_ret
    exact ⟨ret_bool HE.out.symm, rfl⟩
  generalize h4 : (s.toList == [105, 110]) = q4
  cases q4
  rotate_left
  · have HE : Hid (keyB s = true) := by
      show _ = _
      rw [HK.out, h0, h1, h2, h3, h4]; simp
    go_wp2_with fail
    go_ret
    exact ⟨ret_bool HE.out.symm, rfl⟩
  generalize h5 : (s.toList == [110, 111, 116]) = q5
  cases q5
  rotate_left
  · have HE : Hid (keyB s = true) := by
      show _ = _
      rw [HK.out, h0, h1, h2, h3, h4, h5]; simp
    go_wp2_with fail
    go_ret
    exact ⟨ret_bool HE.out.symm, rfl⟩
  generalize h6 : (s.toList == [111, 114]) = q6
  cases q6
  rotate_left
  · have HE : Hid (keyB s = true) := by
      show _ = _
      rw [HK.out, h0, h1, h2, h3, h4, h5, h6]; simp
    go_wp2_with fail
    go_ret
    exact ⟨ret_bool HE.out.symm, rfl⟩
  generalize h7 : (s.toList == [116, 104, 101, 110]) = q7
  cases q7
  rotate_left
  · have HE : Hid (keyB s = true) := by
      show _ = _
      rw [HK.out, h0, h1, h2, h3, h4, h5, h6, h7]; simp
    go_wp2_with fail
    go_ret
    exact ⟨ret_bool HE.out.symm, rfl⟩
  generalize h8 : (s.toList == [116, 114, 117, 101]) = q8
  cases q8
  rotate_left
  · have HE : Hid (keyB s = true) := by
      show _ = _
      rw [HK.out, h0, h1, h2, h3, h4, h5, h6, h7, h8]; simp
    go_wp2_with fail
    go_ret
    exact ⟨ret_bool HE.out.symm, rfl⟩
  have HE : Hid (keyB s = false) := by
    show _ = _
    rw [HK.out, h0, h1, h2, h3, h4, h5, h6, h7, h8]; rfl
  go_wp2_with fail
  go_ret
  exact ⟨ret_bool HE.out.symm, rfl⟩
def keyBA : List ByteArray := [⟨#[97, 110, 100]⟩, ⟨#[101, 108, 115, 101]⟩, ⟨#[102, 97, 108, 115, 101]⟩, ⟨#[105, 102]⟩, ⟨#[105, 110]⟩, ⟨#[110, 111, 116]⟩, ⟨#[111, 114]⟩, ⟨#[116, 104, 101, 110]⟩, ⟨#[116, 114, 117, 101]⟩]
end Go.Proofs.YtijmnenojbfdnaaGreatDoor
