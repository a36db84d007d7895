/- Texts of this seat, merged. -/
import Derived.Lib.ItoaLen
import Derived.Test.YtijmnenojbfdnaaGreatDoorEm01
import Derived.Test.YtijmnenojbfdnaaGreatDoorEm02
import Derived.Test.YtijmnenojbfdnaaGreatDoorEm03
import Derived.Test.YtijmnenojbfdnaaGreatDoorEm04
import Derived.Test.YtijmnenojbfdnaaGreatDoorEm05
import Derived.Test.YtijmnenojbfdnaaGreatDoorEm06
import Derived.Test.YtijmnenojbfdnaaGreatDoorEm07
import Derived.Test.YtijmnenojbfdnaaGreatDoorEm08
import Derived.Test.YtijmnenojbfdnaaGreatDoorEm09
set_option linter.unusedSimpArgs false
set_option linter.unusedVariables false
namespace Go.Proofs.YtijmnenojbfdnaaGreatDoor
open Go.RowKit
inductive Ex where
  | mk (op : Int) (v : Val) (s : ByteArray) (l : List Ex) : Ex
def Ex.op : Ex → Int | .mk o _ _ _ => o
def Ex.v : Ex → Val | .mk _ v _ _ => v
def Ex.s : Ex → ByteArray | .mk _ _ s _ => s
def Ex.l : Ex → List Ex | .mk _ _ _ l => l
def keyWords : List (List UInt8) := [[97, 110, 100], [101, 108, 115, 101], [102, 97, 108, 115, 101], [105, 102], [105, 110], [110, 111, 116], [111, 114], [116, 104, 101, 110], [116, 114, 117, 101]]
def keyB (s : ByteArray) : Bool := keyWords.any fun w => s.toList == w
def zeroV (v : Val) : Bool := decide (v = noV)
def shapeX (x : Ex) : Bool :=
  if x.op = 1 then decide (x.l.length = 0) && noS x.s && validV x.v
  else if x.op = 2 then decide (x.l.length = 0) && zeroV x.v && isNameB x.s && !keyB x.s
  else zeroV x.v && noS x.s &&
    (if x.op = 3 then decide (x.l.length = 1)
     else if 4 ≤ x.op ∧ x.op ≤ 11 then decide (x.l.length = 2)
     else if x.op = 12 then decide (x.l.length = 3)
     else if x.op = 13 then decide (2 ≤ x.l.length) && (x.l.drop 1).all fun y => decide (y.op = 1)
     else false)
mutual
/-- How many nodes are left after those of an expression; -1: it is not well-formed. -/
def cntX : Ex → Int → Int → Int
  | .mk o v s l, a, d => if a ≤ 0 ∨ d ≤ 0 ∨ shapeX (.mk o v s l) = false then -1 else cntL l (a - 1) (d - 1)
def cntL : List Ex → Int → Int → Int
  | [], a, _ => a
  | x :: l, a, d => if cntX x a d < 0 then -1 else cntL l (cntX x a d) d
end
theorem cntX_eq (x : Ex) (a d : Int) : cntX x a d = if a ≤ 0 ∨ d ≤ 0 ∨ shapeX x = false then -1 else cntL x.l (a - 1) (d - 1) := by
  cases x; rw [cntX]; rfl
def validX (x : Ex) : Bool := decide (0 ≤ cntX x 400 60)
mutual
/-- Well-formed in all its parts. -/
def okX : Ex → Bool
  | .mk o v s l => shapeX (.mk o v s l) && decide (l.length ≤ 400) && okL l
def okL : List Ex → Bool
  | [] => true
  | x :: l => okX x && okL l
end
theorem okX_eq (x : Ex) : okX x = (shapeX x && decide (x.l.length ≤ 400) && okL x.l) := by cases x; rw [okX]; rfl
theorem okL_mem {l : List Ex} (h : okL l = true) : ∀ x ∈ l, okX x = true := by
  induction l with
  | nil => intro x hx; simp at hx
  | cons a l ih =>
    rw [okL, Bool.and_eq_true] at h
    intro x hx
    rcases List.mem_cons.1 hx with rfl | hx
    · exact h.1
    · exact ih h.2 x hx
mutual
theorem cntX_ok : ∀ (x : Ex) (a d : Int), a ≤ 400 → 0 ≤ cntX x a d → okX x = true ∧ cntX x a d < a
  | .mk o v s l, a, d, ha, h => by
    rw [cntX] at h ⊢
    split at h
    · omega
    · rename_i hc
      rw [if_neg hc]
      have hc1 : ¬ a ≤ 0 := fun e => hc (.inl e)
      have hc3 : shapeX (.mk o v s l) = true := by
        cases e : shapeX (.mk o v s l)
        · exact absurd (.inr (.inr e)) hc
        · rfl
      obtain ⟨h1, h2, h3⟩ := cntL_ok l (a - 1) (d - 1) (by omega) h
      refine ⟨?_, by omega⟩
      rw [okX, hc3, h1, decide_eq_true (by omega)]; rfl
theorem cntL_ok : ∀ (l : List Ex) (a d : Int), a ≤ 400 → 0 ≤ cntL l a d → okL l = true ∧ cntL l a d ≤ a ∧ l.length ≤ a - cntL l a d
  | [], a, d, ha, h => by rw [cntL] at h ⊢; exact ⟨rfl, by omega, by simp⟩
  | x :: l, a, d, ha, h => by
    rw [cntL] at h ⊢
    split at h
    · omega
    · rename_i hc
      rw [if_neg hc]
      obtain ⟨h1, h2⟩ := cntX_ok x a d ha (by omega)
      obtain ⟨h3, h4, h5⟩ := cntL_ok l (cntX x a d) d (by omega) h
      refine ⟨by rw [okL, h1, h3]; rfl, by omega, ?_⟩
      rw [List.length_cons]; omega
end
theorem valid_ok {x : Ex} (h : validX x = true) : okX x = true := (cntX_ok x 400 60 (by omega) (by unfold validX at h; simpa using h)).1
def findV (vs : List Var) (s : ByteArray) : Int := match vs.findIdx? (fun x => x.name.toList == s.toList) with | some i => (i : Int) | none => -1
def kindAt (vs : List Var) (i : Int) : Int := (vs[i.toNat]?.map Var.kind).getD 0
def typO (vs : List Var) (x : Ex) (ks : List Int) : Int × Int :=
  if x.op = 1 then (x.v.kind, 0)
  else if x.op = 2 then (if findV vs x.s < 0 then (0, 8) else (kindAt vs (findV vs x.s), 0))
  else if x.op = 9 ∨ x.op = 10 ∨ x.op = 11 then (if ks.all (· == 2) then (2, 0) else (0, 11))
  else if x.op = 7 ∨ x.op = 8 then (if ks.all (· == 2) then (1, 0) else (0, 11))
  else if x.op = 3 ∨ x.op = 4 ∨ x.op = 5 then (if ks.all (· == 1) then (1, 0) else (0, 11))
  else if x.op = 12 then (if ks.getD 0 0 = 1 ∧ ks.getD 1 0 = ks.getD 2 0 then (ks.getD 1 0, 0) else (0, 11))
  else (if ks.all (· == ks.getD 0 0) then (1, 0) else (0, 11))
mutual
def typX (vs : List Var) : Ex → Int × Int
  | .mk o v s l => if (typL vs l).2 ≠ 0 then (0, (typL vs l).2) else typO vs (.mk o v s l) (typL vs l).1
def typL (vs : List Var) : List Ex → List Int × Int
  | [] => ([], 0)
  | x :: l => if (typX vs x).2 ≠ 0 then ([], (typX vs x).2) else if (typL vs l).2 ≠ 0 then ([], (typL vs l).2) else ((typX vs x).1 :: (typL vs l).1, 0)
end
theorem typX_eq (vs : List Var) (x : Ex) : typX vs x = if (typL vs x.l).2 ≠ 0 then (0, (typL vs x.l).2) else typO vs x (typL vs x.l).1 := by cases x; rw [typX]; rfl
theorem typL_nil (vs : List Var) : typL vs [] = ([], 0) := by rw [typL]
theorem typL_cons (vs : List Var) (x : Ex) (l : List Ex) : typL vs (x :: l) = if (typX vs x).2 ≠ 0 then ([], (typX vs x).2) else if (typL vs l).2 ≠ 0 then ([], (typL vs l).2) else ((typX vs x).1 :: (typL vs l).1, 0) := by rw [typL]
theorem typL_ok {vs : List Var} {l : List Ex} (h : (typL vs l).2 = 0) : (typL vs l).1 = l.map (fun x => (typX vs x).1) ∧ ∀ x ∈ l, (typX vs x).2 = 0 := by
  induction l with
  | nil => rw [typL_nil]; exact ⟨rfl, fun x hx => by simp at hx⟩
  | cons x l ih =>
    rw [typL_cons] at h ⊢
    by_cases h1 : (typX vs x).2 ≠ 0
    · rw [if_pos h1] at h; exact absurd h h1
    · rw [if_neg h1] at h ⊢
      by_cases h2 : (typL vs l).2 ≠ 0
      · rw [if_pos h2] at h; exact absurd h h2
      · rw [if_neg h2] at h ⊢
        obtain ⟨i1, i2⟩ := ih (by simpa using h2)
        refine ⟨by rw [i1]; rfl, fun y hy => ?_⟩
        rcases List.mem_cons.1 hy with rfl | hy
        · simpa using h1
        · exact i2 y hy
def givenE (vs : List Var) (x : Ex) : Int × Int := if validX x && varsB vs then typX vs x else (0, 1)
def truthV (b : Bool) : Val := ⟨1, if b then 1 else 0, emptyS⟩
def numV (n : Int) : Option Val := if numB n then some ⟨2, n, emptyS⟩ else none
def varV (vs : List Var) (vals : List Val) (s : ByteArray) : Val := vals.getD (findV vs s).toNat noV
def evO (vs : List Var) (vals : List Val) (x : Ex) (es : List (Option Val)) : Option Val :=
  if x.op = 1 then some x.v
  else if x.op = 2 then some (varV vs vals x.s)
  else match es.getD 0 none with
  | none => none
  | some a =>
    if x.op = 3 then some (truthV (decide (a.n = 0)))
    else if x.op = 4 then (if a.n = 1 then es.getD 1 none else some a)
    else if x.op = 5 then (if a.n = 1 then some a else es.getD 1 none)
    else if x.op = 12 then (if a.n = 1 then es.getD 1 none else es.getD 2 none)
    else if x.op = 13 then some (truthV ((x.l.drop 1).any fun y => decide (y.v = a)))
    else match es.getD 1 none with
    | none => none
    | some b =>
      if x.op = 6 then some (truthV (decide (a = b)))
      else if x.op = 7 then some (truthV (decide (a.n < b.n)))
      else if x.op = 8 then some (truthV (decide (a.n ≤ b.n)))
      else if x.op = 9 then numV (a.n + b.n)
      else if x.op = 10 then numV (a.n - b.n)
      else numV (a.n * b.n)
mutual
def evX (vs : List Var) (vals : List Val) : Ex → Option Val
  | .mk o v s l => evO vs vals (.mk o v s l) (evL vs vals l)
def evL (vs : List Var) (vals : List Val) : List Ex → List (Option Val)
  | [] => []
  | x :: l => evX vs vals x :: evL vs vals l
end
theorem evX_eq (vs : List Var) (vals : List Val) (x : Ex) : evX vs vals x = evO vs vals x (evL vs vals x.l) := by cases x; rw [evX]; rfl
theorem evL_eq (vs : List Var) (vals : List Val) (l : List Ex) : evL vs vals l = l.map (evX vs vals) := by
  induction l with
  | nil => rw [evL]; rfl
  | cons x l ih => rw [evL, ih]; rfl
def evalE (vs : List Var) (vals : List Val) (x : Ex) : Val × Int :=
  if (givenE vs x).2 ≠ 0 then (noV, (givenE vs x).2)
  else if (inAllE vs vals).2 = 0 ∧ (inAllE vs vals).1 = true then (match evX vs vals x with | some a => (a, 0) | none => (noV, 6))
  else (noV, 11)
theorem shape_len {x : Ex} (h : shapeX x = true) : (x.op = 1 → x.l.length = 0) ∧ (x.op = 2 → x.l.length = 0) ∧ (x.op = 3 → x.l.length = 1) ∧ (4 ≤ x.op ∧ x.op ≤ 11 → x.l.length = 2) ∧ (x.op = 12 → x.l.length = 3) ∧ (x.op = 13 → 2 ≤ x.l.length) ∧ 1 ≤ x.op ∧ x.op ≤ 13 := by
  unfold shapeX at h
  split at h
  · rename_i h1
    simp only [Bool.and_eq_true, decide_eq_true_eq] at h
    exact ⟨fun _ => h.1.1, fun _ => by omega, fun _ => by omega, fun _ => by omega, fun _ => by omega, fun _ => by omega, by omega, by omega⟩
  split at h
  · rename_i h1
    simp only [Bool.and_eq_true, decide_eq_true_eq] at h
    exact ⟨fun _ => by omega, fun _ => h.1.1.1, fun _ => by omega, fun _ => by omega, fun _ => by omega, fun _ => by omega, by omega, by omega⟩
  rw [Bool.and_eq_true] at h
  have h := h.2
  split at h
  · rw [decide_eq_true_eq] at h
    exact ⟨fun _ => by omega, fun _ => by omega, fun _ => h, fun _ => by omega, fun _ => by omega, fun _ => by omega, by omega, by omega⟩
  split at h
  · rw [decide_eq_true_eq] at h
    exact ⟨fun _ => by omega, fun _ => by omega, fun _ => by omega, fun _ => h, fun _ => by omega, fun _ => by omega, by omega, by omega⟩
  split at h
  · rw [decide_eq_true_eq] at h
    exact ⟨fun _ => by omega, fun _ => by omega, fun _ => by omega, fun _ => by omega, fun _ => h, fun _ => by omega, by omega, by omega⟩
  split at h
  · rw [Bool.and_eq_true, decide_eq_true_eq] at h
    exact ⟨fun _ => by omega, fun _ => by omega, fun _ => by omega, fun _ => by omega, fun _ => by omega, fun _ => h.1, by omega, by omega⟩
  · cases h
theorem truth_valid (b : Bool) : validV (truthV b) = true := by cases b <;> decide +kernel
theorem numV_some {n : Int} {a : Val} (h : numV n = some a) : a = ⟨2, n, emptyS⟩ ∧ numB n = true := by
  unfold numV at h
  split at h
  · rename_i h1; injection h with h; exact ⟨h.symm, h1⟩
  · cases h
theorem num_valid {n : Int} (h : numB n = true) : validV ⟨2, n, emptyS⟩ = true := by
  show (numB n && noS emptyS) = true
  rw [h, show noS emptyS = true by decide +kernel]; rfl
end Go.Proofs.YtijmnenojbfdnaaGreatDoor

namespace Go.Proofs.YtijmnenojbfdnaaGreatDoor
open Go.RowKit
def isB (L : List Tok) (i : Nat) (s : ByteArray) : Bool := match L[i]? with
  | some t => decide (t.text = s) && (decide (t.kind = 4) || decide (t.kind = 1))
  | none => false
def kTrue : ByteArray := ⟨#[116, 114, 117, 101]⟩
def kFalse : ByteArray := ⟨#[102, 97, 108, 115, 101]⟩
def kMinus : ByteArray := ⟨#[45]⟩
def kIf : ByteArray := ⟨#[105, 102]⟩
def kNot : ByteArray := ⟨#[110, 111, 116]⟩
def kIn : ByteArray := ⟨#[105, 110]⟩
def kOpen : ByteArray := ⟨#[40]⟩
def kShut : ByteArray := ⟨#[41]⟩
def kLeft : ByteArray := ⟨#[123]⟩
def kRight : ByteArray := ⟨#[125]⟩
def kComma : ByteArray := ⟨#[44]⟩
def conB (L : List Tok) (i : Nat) : Option (Option (Ex × Nat)) := match L[i]? with
  | none => none
  | some t =>
    if t.kind = 2 then some (some (.mk 1 ⟨2, t.n, ⟨#[]⟩⟩ ⟨#[]⟩ [], i + 1))
    else if t.kind = 3 then none
    else if isB L i kTrue || isB L i kFalse || isB L i kMinus then none
    else some none
def pSetB (L : List Tok) : Nat → Nat → List Ex → Option (List Ex × Nat)
  | 0, _, _ => none
  | f + 1, i, acc => match conB L i with
    | some (some (c, i')) => if isB L i' kComma then pSetB L f (i' + 1) (acc ++ [c]) else if isB L i' kRight then some (acc ++ [c], i' + 1) else none
    | _ => none
def signL : List ByteArray := [⟨#[97, 110, 100]⟩, ⟨#[111, 114]⟩, ⟨#[61]⟩, ⟨#[60]⟩, ⟨#[60, 61]⟩, ⟨#[43]⟩, ⟨#[45]⟩, ⟨#[42]⟩]
def opB (L : List Tok) (i : Nat) : Nat := if isB L i kIn then 13 else match signL.findIdx? (isB L i) with
  | some k => k + 4
  | none => 0
def levB (op : Nat) : Nat := if op = 12 then 1 else if op = 5 then 2 else if op = 4 then 3 else if op = 3 then 4 else if op = 6 ∨ op = 7 ∨ op = 8 ∨ op = 13 then 5 else if op = 9 ∨ op = 10 then 6 else if op = 11 then 7 else 8
def askB (op : Nat) : Nat := if levB op = 5 then 6 else levB op
def nodeB (op : Nat) (l : List Ex) : Ex := .mk op ⟨0, 0, ⟨#[]⟩⟩ ⟨#[]⟩ l
mutual
def exB (L : List Tok) : Nat → Nat → Nat → Option (Ex × Nat)
  | 0, _, _ => none
  | f + 1, i, least =>
    if least ≤ 1 ∧ isB L i kIf = true then none
    else if least ≤ 4 ∧ isB L i kNot = true then
      match exB L f (i + 1) 4 with
      | some (x, i') => loopB L f i' least (nodeB 3 [x]) 4
      | none => none
    else match atB L f i with
      | some (x, i') => loopB L f i' least x 8
      | none => none
def loopB (L : List Tok) : Nat → Nat → Nat → Ex → Nat → Option (Ex × Nat)
  | 0, _, _, _, _ => none
  | f + 1, i, least, x, top =>
    if opB L i = 0 ∨ levB (opB L i) < least ∨ top < askB (opB L i) then some (x, i)
    else if opB L i = 13 then
      (if isB L (i + 1) kLeft then match pSetB L f (i + 2) [x] with
        | some (l, i') => loopB L f i' least (nodeB 13 l) (levB 13)
        | none => none
      else none)
    else match exB L f (i + 1) (levB (opB L i) + 1) with
      | some (y, i') => loopB L f i' least (nodeB (opB L i) [x, y]) (levB (opB L i))
      | none => none
def atB (L : List Tok) : Nat → Nat → Option (Ex × Nat)
  | 0, _ => none
  | f + 1, i => match conB L i with
    | none => none
    | some (some r) => some r
    | some none => match L[i]? with
      | none => none
      | some t =>
        if t.kind = 1 ∧ keyB t.text = false then some (.mk 2 ⟨0, 0, ⟨#[]⟩⟩ t.text [], i + 1)
        else if isB L i kOpen then match exB L f (i + 1) 1 with
          | some (x, i') => if isB L i' kShut then some (x, i' + 1) else none
          | none => none
        else none
end
def varN : Ex := .mk 2 ⟨0, 0, ⟨#[]⟩⟩ ⟨#[110]⟩ []
def num (z : Int) : Ex := .mk 1 ⟨2, z, ⟨#[]⟩⟩ ⟨#[]⟩ []
def exA : Ex := nodeB 3 [nodeB 6 [nodeB 9 [varN, num 1], num 3]]
def exC : Ex := nodeB 4 [nodeB 8 [nodeB 11 [varN, varN], num 4], nodeB 3 [nodeB 13 [varN, num 1]]]
theorem pars1 : exB toks1 20 0 1 = some (exA, 6) := by kernel_rfl
theorem pars2 : exB toks2 20 0 1 = some (exC, 14) := by kernel_rfl
end Go.Proofs.YtijmnenojbfdnaaGreatDoor

namespace Go.Proofs.YtijmnenojbfdnaaGreatDoor
open Go.RowKit
def kAt (l : List Ex) (i : Nat) : Ex := l.getD i (.mk 0 ⟨0, 0, ⟨#[]⟩⟩ ⟨#[]⟩ [])
def signOf (op : Int) : List UInt8 := (signL.getD (op.toNat - 4) ⟨#[]⟩).data.toList
def joinB (sep : List UInt8) : List (List UInt8) → List UInt8
  | [] => []
  | [a] => a
  | a :: l => a ++ sep ++ joinB sep l
def txB : Nat → Ex → Nat → List UInt8
  | 0, _, _ => []
  | f + 1, x, asks =>
    let own := levB x.op.toNat
    let body := if x.op = 1 then (textE x.v).1.data.toList
      else if x.op = 2 then x.s.data.toList
      else if x.op = 3 then [110, 111, 116, 32] ++ txB f (kAt x.l 0) 4
      else if x.op = 12 then [105, 102, 32] ++ txB f (kAt x.l 0) 1 ++ [32, 116, 104, 101, 110, 32] ++ txB f (kAt x.l 1) 1 ++ [32, 101, 108, 115, 101, 32] ++ txB f (kAt x.l 2) 1
      else if x.op = 13 then txB f (kAt x.l 0) 6 ++ [32, 105, 110, 32, 123] ++ joinB [44, 32] ((x.l.drop 1).map fun y => txB f y 0) ++ [125]
      else txB f (kAt x.l 0) (if own = 5 then 6 else own) ++ [32] ++ signOf x.op ++ [32] ++ txB f (kAt x.l 1) (own + 1)
    if own < asks then [40] ++ body ++ [41] else body
theorem tx1 : txB 10 exA 0 = ex1.data.toList := by kernel_rfl
end Go.Proofs.YtijmnenojbfdnaaGreatDoor

namespace Go.Proofs.YtijmnenojbfdnaaGreatDoor
open Go.RowKit
mutual
/-- The number of nodes. -/
def nodX : Ex → Nat
  | .mk _ _ _ l => 1 + nodL l
def nodL : List Ex → Nat
  | [] => 0
  | x :: l => nodX x + nodL l
end
theorem nodX_eq (x : Ex) : nodX x = 1 + nodL x.l := by cases x; rw [nodX]; rfl
theorem nodX_pos (x : Ex) : 1 ≤ nodX x := by rw [nodX_eq]; omega
theorem nodL_nil : nodL [] = 0 := by rw [nodL]
theorem nodL_cons (x : Ex) (l : List Ex) : nodL (x :: l) = nodX x + nodL l := by rw [nodL]
mutual
theorem cntX_nod : ∀ (x : Ex) (a d : Int), 0 ≤ cntX x a d → (nodX x : Int) = a - cntX x a d
  | .mk o v s l, a, d, h => by
    rw [cntX] at h ⊢
    split at h
    · omega
    · rename_i hc
      rw [if_neg hc]
      have := cntL_nod l (a - 1) (d - 1) h
      rw [nodX]
      push_cast
      omega
theorem cntL_nod : ∀ (l : List Ex) (a d : Int), 0 ≤ cntL l a d → (nodL l : Int) = a - cntL l a d
  | [], a, d, h => by rw [cntL, nodL]; omega
  | x :: l, a, d, h => by
    rw [cntL] at h ⊢
    split at h
    · omega
    · rename_i hc
      rw [if_neg hc]
      have h1 := cntX_nod x a d (by omega)
      have h2 := cntL_nod l (cntX x a d) d h
      rw [nodL]
      push_cast
      omega
end
theorem valid_nod {x : Ex} (h : validX x = true) : nodX x ≤ 400 := by
  have h0 : 0 ≤ cntX x 400 60 := by unfold validX at h; simpa using h
  have := cntX_nod x 400 60 h0
  omega
theorem textE_len {v : Val} : (textE v).1.data.toList.length ≤ 500 := by
  unfold textE
  split
  · rename_i h
    show (textV v).data.toList.length ≤ 500
    unfold textV
    split
    · split <;> decide
    · rename_i h1
      split
      · rename_i h2
        unfold validV at h
        rw [if_neg h1, if_pos h2, Bool.and_eq_true] at h
        have hn := h.1
        unfold numB at hn
        rw [decide_eq_true_eq] at hn
        have := Lib.itoa_length_le v.n (by omega) (by omega)
        show (Lib.itoa v.n).length ≤ 500
        omega
      · rename_i h2
        obtain ⟨_, _, h3⟩ := valid3 h h1 h2
        unfold textB at h3
        rw [Bool.and_eq_true, decide_eq_true_eq] at h3
        have := escB_len v.s.data.toList
        have hs : v.s.data.toList.length = v.s.size := Array.length_toList
        show (quoteL v.s.data.toList).length ≤ 500
        unfold quoteL
        rw [List.length_cons, List.length_append]
        show _ + 1 + 1 ≤ 500
        omega
  · exact Nat.zero_le _
theorem kAt_one {l : List Ex} (h : l.length = 1) : nodL l = nodX (kAt l 0) := by
  match l, h with
  | [a], _ => rw [nodL_cons, nodL_nil]; rfl
theorem kAt_two {l : List Ex} (h : l.length = 2) : nodL l = nodX (kAt l 0) + nodX (kAt l 1) := by
  match l, h with
  | [a, b], _ => rw [nodL_cons, nodL_cons, nodL_nil]; rfl
theorem kAt_three {l : List Ex} (h : l.length = 3) : nodL l = nodX (kAt l 0) + nodX (kAt l 1) + nodX (kAt l 2) := by
  match l, h with
  | [a, b, c], _ => rw [nodL_cons, nodL_cons, nodL_cons, nodL_nil]; show _ = nodX a + nodX b + nodX c; omega
theorem kAt_mem {l : List Ex} {k : Nat} (h : k < l.length) : kAt l k ∈ l := by
  unfold kAt
  rw [List.getD_eq_getElem?_getD, List.getElem?_eq_getElem h]
  exact List.getElem_mem h
theorem joinB_len (sep : List UInt8) : ∀ l : List (List UInt8), (joinB sep l).length ≤ (l.map fun a => a.length + sep.length).foldr (· + ·) 0
  | [] => by simp [joinB]
  | [a] => by simp [joinB]
  | a :: b :: l => by
    have := joinB_len sep (b :: l)
    show (a ++ sep ++ joinB sep (b :: l)).length ≤ _
    rw [List.length_append, List.length_append]
    simp only [List.map_cons, List.foldr_cons] at this ⊢
    omega
theorem sum_le {f : Ex → Nat} : ∀ {l : List Ex}, (∀ x ∈ l, f x + 2 ≤ 1000 * nodX x) → (l.map fun x => f x + 2).foldr (· + ·) 0 ≤ 1000 * nodL l
  | [], _ => by simp
  | x :: l, h => by
    have h1 := h x (by simp)
    have h2 := sum_le (l := l) (fun y hy => h y (by simp [hy]))
    rw [nodL_cons]
    simp only [List.map_cons, List.foldr_cons]
    omega
theorem nodL_drop {l : List Ex} (h : 1 ≤ l.length) : nodL l = nodX (kAt l 0) + nodL (l.drop 1) := by
  match l, h with
  | a :: l, _ => rw [nodL_cons]; rfl
theorem txB_len : ∀ (f : Nat) (x : Ex) (asks : Nat), okX x = true → (txB f x asks).length + 100 ≤ 1000 * nodX x
  | 0, x, asks, _ => by have := nodX_pos x; show 0 + 100 ≤ _; omega
  | f + 1, x, asks, hok => by
    have hn := nodX_eq x
    have hok0 := hok
    rw [okX_eq, Bool.and_eq_true, Bool.and_eq_true] at hok
    obtain ⟨⟨hs, _⟩, hl⟩ := hok
    have hk : ∀ k asks, k < x.l.length → (txB f (kAt x.l k) asks).length + 100 ≤ 1000 * nodX (kAt x.l k) := fun k a h => txB_len f _ a (okL_mem hl _ (kAt_mem h))
    obtain ⟨s1, s2, s3, s4, s5, s6, s7, s8⟩ := shape_len hs
    have key : ∀ body : List UInt8, body.length + 102 ≤ 1000 * nodX x → (if levB x.op.toNat < asks then [40] ++ body ++ [41] else body).length + 100 ≤ 1000 * nodX x := by
      intro body hb
      split
      · rw [List.length_append, List.length_append]; show 1 + _ + 1 + 100 ≤ _; omega
      · omega
    unfold txB
    dsimp only
    apply key
    split
    · have := @textE_len x.v; omega
    split
    · rename_i _ h2
      unfold shapeX at hs
      rw [if_neg (by omega), if_pos h2] at hs
      simp only [Bool.and_eq_true] at hs
      have hnm := hs.1.2
      unfold isNameB at hnm
      simp only [Bool.and_eq_true, decide_eq_true_eq] at hnm
      have : x.s.data.toList.length = x.s.size := Array.length_toList
      omega
    split
    · rename_i _ _ h3
      have e := s3 h3
      have := hk 0 4 (by omega)
      have := kAt_one e
      rw [List.length_append]; show 4 + _ + 102 ≤ _; omega
    split
    · rename_i h12
      have e := s5 h12
      have a0 := hk 0 1 (by omega)
      have a1 := hk 1 1 (by omega)
      have a2 := hk 2 1 (by omega)
      have := kAt_three e
      simp only [List.length_append, List.length_cons, List.length_nil]
      omega
    split
    · rename_i h13
      have e := s6 h13
      have a0 := hk 0 6 (by omega)
      have hd := nodL_drop (show 1 ≤ x.l.length by omega)
      have hj := joinB_len [44, 32] ((x.l.drop 1).map fun y => txB f y 0)
      rw [List.map_map] at hj
      have hsum := sum_le (f := fun y => (txB f y 0).length) (l := x.l.drop 1) (fun y hy => by
        have := txB_len f y 0 (okL_mem hl _ (List.mem_of_mem_drop hy)); omega)
      have hj2 : (joinB [44, 32] ((x.l.drop 1).map fun y => txB f y 0)).length ≤ 1000 * nodL (x.l.drop 1) := Nat.le_trans hj hsum
      simp only [List.length_append, List.length_cons, List.length_nil]
      omega
    · rename_i n1 n2 n3 n12 n13
      have e := s4 (by omega)
      have a0 := hk 0 (if levB x.op.toNat = 5 then 6 else levB x.op.toNat) (by omega)
      have a1 := hk 1 (levB x.op.toNat + 1) (by omega)
      have := kAt_two e
      have hsg : (signOf x.op).length ≤ 10 := by
        unfold signOf signL
        obtain ⟨k, hk'⟩ : ∃ k, x.op.toNat - 4 = k := ⟨_, rfl⟩
        rw [hk']
        match k with
        | 0 | 1 | 2 | 3 | 4 | 5 | 6 | 7 => decide
        | k + 8 => simp
      simp only [List.length_append, List.length_cons, List.length_nil]
      omega
theorem valid_txB {x : Ex} (h : validX x = true) (f asks : Nat) : (txB f x asks).length ≤ 400000 := by
  have := txB_len f x asks (valid_ok h)
  have := valid_nod h
  omega
end Go.Proofs.YtijmnenojbfdnaaGreatDoor

namespace Go.Proofs.YtijmnenojbfdnaaGreatDoor
open Go.RowKit
set_option maxHeartbeats 2000000 in
set_option maxRecDepth 100000 in
theorem cloneV (v : Value) (vs : List Val) (w : World) (h : SlV (Lt w.heap.size) w v vs) (hl : vs.length ≤ 1000000) :
    Calls Tryz.prog 31 #[v] w fun e w' => ∃ v', e = .returned v' ∧ OwnV w' w.heap.size v' vs ∧ Below w.heap.size w w' := by
  obtain ⟨A, c, rfl, h1, h2, ht⟩ := h.open_
  clear h
  have qeq : ∀ (w : World) (a : Option Addr) (n c n' c' : Nat), (binOp .eql 23 (.slice a n c) (.slice none n' c')).run Tryz.prog w = .ok (.bool a.isNone) w := fun w a n c n' c' => Lib.run_eql_slice_nil w _ _ a n c n' c' Tryz.underlying23
  go_enter Tryz.func31, Tryz.ntmps31
  cases A with
  | none =>
    have h0 : vs = [] := by
      match vs, ht with
      | [], _ => rfl
      | x :: xs, ht => obtain ⟨b, o, _, e, _⟩ := ht.at_ (k := 0) (by simp); cases e
    subst h0
    go_wp2_with fail
    go_ret
    exact ⟨_, rfl, OwnW.nil, Below.refl _ _⟩
  | some a =>
    have hb := bone w (.cells #[] 25)
    have htb := ht.now hb
    go_wp2_with (at_builtin; refine wpList_appendAllW (fc := cellsV) (R := RVal) appVals rfl (.tmp 5) (.tmp 6) rfl _ cellsV_len [] _ rfl (World.ownsRow_lit (base := w.heap.size) (e := 25) (size := 3) w #[] 0 (Nat.le_refl _) (by unfold maxLen; omega) rfl) _ vs rfl htb (fun y c h => h.1) cellsV_one (by simp; omega) (by simp) ?_; intro v' w' hown' hgr hat)
    have hbw : Below w.heap.size w w' := hb.trans (below_of_grown hgr (by simp) (fun g hg => by injection hg with hg; exact Nat.le_of_eq hg))
    go_wp2_with fail
    go_ret
    exact ⟨_, rfl, hown', hbw⟩
end Go.Proofs.YtijmnenojbfdnaaGreatDoor

namespace Go.Proofs.YtijmnenojbfdnaaGreatDoor
open Go.RowKit
theorem empty_list : emptyS.toList = [] := by rw [Lib.toList_data]; rfl
theorem noS_empty : noS emptyS = true := by unfold noS; rw [empty_list]; rfl
theorem nth_valid {x : Var} (h : varB x = true) {n : Nat} (hn : (n : Int) < sizeV x) : validV (nthV x n) = true := by
  have ht := tame_of h
  have hf : formB x = true := by unfold varB at h; simp only [Bool.and_eq_true] at h; exact h.2
  obtain ⟨nm, k, lo, hi, its⟩ := x
  obtain ⟨_, _, ld, lk, li⟩ := ht
  dsimp only at ld lk li
  rcases lk with rfl | rfl | rfl
  · have hn2 : (n : Int) < 2 := hn
    have : (n : Int) = 0 ∨ (n : Int) = 1 := by omega
    show (decide ((n : Int) = 0 ∨ (n : Int) = 1) && noS emptyS) = true
    rw [decide_eq_true this, noS_empty]; rfl
  · have hn2 : (n : Int) < hi - lo + 1 := hn
    rw [form2] at hf
    simp only [Bool.and_eq_true, decide_eq_true_eq] at hf
    have b1 := num_bounds hf.1.1
    have b2 := num_bounds hf.1.2
    show (numB ((n : Int) + lo) && noS emptyS) = true
    rw [numB_yes (by omega) (by omega), noS_empty]; rfl
  · have hn2 : (n : Int) < (its.length : Int) := hn
    rw [form3] at hf
    simp only [Bool.and_eq_true, decide_eq_true_eq] at hf
    have hlt : n < its.length := by omega
    show (decide ((0 : Int) = 0) && textB (its.getD (n : Int).toNat emptyS)) = true
    rw [Int.toNat_natCast, List.getD_eq_getElem?_getD, List.getElem?_eq_getElem hlt]
    simp only [decide_true, Bool.true_and, Option.getD_some]
    exact List.all_eq_true.1 hf.1.2 _ (List.getElem_mem hlt)
theorem atS_self {its : List ByteArray} (h : onceB (bytesOf its) = true) {n : Nat} (hn : n < its.length) : atS its its[n] = n := by
  unfold onceB at h
  have hnd : (bytesOf its).Nodup := by simpa using h
  refine atS_hit its its[n] n its[n] (List.getElem?_eq_getElem hn) (by simp [sameS]) (fun q z hq hz => ?_)
  rw [Bool.eq_false_iff]
  intro hs
  rw [sameS_iff] at hs
  have hq' : q < its.length := by omega
  rw [List.getElem?_eq_getElem hq'] at hz
  injection hz with hz
  unfold List.Nodup at hnd
  rw [List.pairwise_iff_getElem] at hnd
  refine hnd q n (by simpa [bytesOf] using hq') (by simpa [bytesOf] using hn) hq ?_
  simp only [bytesOf, List.getElem_map]
  rw [hz, hs]
theorem place_nth {x : Var} (h : varB x = true) {n : Nat} (hn : (n : Int) < sizeV x) : placeV x (nthV x n) = n := by
  have ht := tame_of h
  have hf : formB x = true := by unfold varB at h; simp only [Bool.and_eq_true] at h; exact h.2
  obtain ⟨nm, k, lo, hi, its⟩ := x
  obtain ⟨_, _, ld, lk, li⟩ := ht
  dsimp only at ld lk li
  rcases lk with rfl | rfl | rfl
  · rfl
  · have hn2 : (n : Int) < hi - lo + 1 := hn
    show (if (n : Int) + lo < lo ∨ hi < (n : Int) + lo then (-1 : Int) else (n : Int) + lo - lo) = n
    rw [if_neg (by omega)]; omega
  · have hn2 : (n : Int) < (its.length : Int) := hn
    rw [form3] at hf
    simp only [Bool.and_eq_true, decide_eq_true_eq] at hf
    have hlt : n < its.length := by omega
    show atS its (its.getD (n : Int).toNat emptyS) = n
    rw [Int.toNat_natCast, List.getD_eq_getElem?_getD, List.getElem?_eq_getElem hlt]
    simp only [Option.getD_some]
    exact atS_self hf.2 hlt
end Go.Proofs.YtijmnenojbfdnaaGreatDoor

namespace Go.Proofs.YtijmnenojbfdnaaGreatDoor
open Go.RowKit
def RetVBE (vs : List Val) (b : Bool) (z : Int) (w : World) (e : Ending) (w' : World) : Prop := ∃ v, e = .returned (.tuple #[v, .bool b, .int .i64 z]) ∧ SlV (Lt w'.heap.size) w' v vs ∧ Below w.heap.size w w'
def RetVB (vs : List Val) (b : Bool) (w : World) (e : Ending) (w' : World) : Prop := ∃ v, e = .returned (.tuple #[v, .bool b]) ∧ SlV (Lt w'.heap.size) w' v vs ∧ Below w.heap.size w w'
theorem fits_set {vs : List Val} (h : ∀ x ∈ vs, FitV x) (k : Nat) {y : Val} (hy : FitV y) : ∀ x ∈ vs.set k y, FitV x := by
  intro x hx
  rcases List.mem_or_eq_of_mem_set hx with hx | rfl
  · exact h x hx
  · exact hy
set_option maxHeartbeats 2000000 in
set_option maxRecDepth 100000 in
theorem nextE_any (l : List Var) (vs : List Val) (u v : Value) (w : World) (h : SlX (Lt w.heap.size) w u l) (hv : SlV (Lt w.heap.size) w v vs) (hl : l.length ≤ 1000000) :
    Calls Tryz.prog 107 #[u, v] w (RetVBE (nextE l vs).1 (nextE l vs).2.1 (nextE l vs).2.2 w) := by
  have hit := vars_items h
  have HIT := Lib.hid hit
  have HFV := Lib.hid hv.fits
  clear hit
  obtain ⟨A, c, rfl, h1, h2, ht⟩ := h.open_
  obtain ⟨Av, cv, rfl, h1v, h2v, htv⟩ := hv.open_
  clear h hv
  go_enter Tryz.func107, Tryz.ntmps107
  go_wp2_with fail
  refine (validVs_any l vs _ _ _ ht htv hl).mono ?_
  rintro e w2 ⟨rfl, hb2⟩
  generalize hq : okB l vs = q
  have HQ := Lib.hid hq
  clear hq
  cases q
  · have HE : Hid (nextE l vs = ([], false, 1)) := by show _ = _; unfold nextE; rw [HQ.out]; rfl
    go_wp2_with fail
    go_ret3
    rw [HE.out]
    exact ⟨_, rfl, Sl.none_, hb2⟩
  obtain ⟨hvs, hvv⟩ := ok_vars HQ.out
  have HV := Lib.hid hvs
  have HVV := Lib.hid hvv
  have h8 := vars_len hvs
  clear hvs hvv
  by_cases hlen : vs.length = l.length
  rotate_left
  · have HE : Hid (nextE l vs = ([], false, 29)) := by show _ = _; unfold nextE; rw [HQ.out, if_pos rfl, if_pos hlen]
    have h3 : ((vs.length : Int) != (l.length : Int)) = true := by simp; omega
    clear hlen
    go_wp2_with fail
    go_ret3
    rw [HE.out]
    exact ⟨_, rfl, Sl.none_, hb2⟩
  have HE1 : Hid (nextE l vs = if assignedB l vs then ((nextV l vs).1, (nextV l vs).2, 0) else ([], false, 11)) := by show _ = _; unfold nextE; rw [HQ.out, if_pos rfl, if_neg (by simpa using hlen)]
  rw [hlen] at htv h1v
  rw [hlen]
  have HL := Lib.hid hlen
  clear hlen
  have h3 : ((l.length : Int) != (l.length : Int)) = false := by simp
  go_wp2_with fail
  refine (assigned_any l vs _ _ _ (ht.now hb2) (htv.now hb2) HV.out).mono ?_
  rintro e w3 ⟨rfl, hb3⟩
  have hbw3 := bthen hb2 hb3
  generalize hq : assignedB l vs = q
  have HA := Lib.hid hq
  clear hq
  cases q
  · have HE : Hid (nextE l vs = ([], false, 11)) := by show _ = _; rw [HE1.out, HA.out]; rfl
    go_wp2_with fail
    go_ret3
    rw [HE.out]
    exact ⟨_, rfl, Sl.none_, hbw3⟩
  have HE : Hid (nextE l vs = ((nextV l vs).1, (nextV l vs).2, 0)) := by show _ = _; rw [HE1.out, HA.out]; rfl
  clear HE1
  go_wp2_with fail
  refine (cloneV _ vs _ (htv.now hbw3) (by have := HL.out; omega)).mono ?_
  rintro e w4 ⟨ov, rfl, hown, hb4⟩
  have hbw4 := bthen hbw3 hb4
  have ht4 := ht.now hbw4
  have htv4 := htv.now hbw4
  have hbase : w3.heap.size ≤ w4.heap.size := hb4.size
  have HNV : Hid (nextFrom l vs l.length vs = nextV l vs) := rfl
  have hB0 : Below w3.heap.size w3 w4 := hb4
  go_wp2_with fail
  go_loopw [8] (fun i wr => ∃ (k : Nat) (cur : List Val), k ≤ l.length ∧ i = .int .i64 ((k : Int) - 1) ∧ OwnV wr w3.heap.size ov cur ∧ cur.length = l.length ∧ (∀ x ∈ cur, FitV x) ∧ nextFrom l vs k cur = nextV l vs ∧ Below w3.heap.size w3 wr) (fun i _ => (intOf i + 1).toNat)
  case atStart => exact ⟨l.length, vs, Nat.le_refl _, rfl, hown, HL.out, HFV.out, rfl, hb4⟩
  case round =>
    obtain ⟨k, cur, hk, rfl, hcur, hcl, hcf, hnx, hbr⟩ := hrel
    have HN := Lib.hid hnx
    have HCF := Lib.hid hcf
    clear hnx hcf
    have hbwr : Below w.heap.size w wr := bthen hbw3 hbr
    cases k with
    | zero =>
      have HN0 : Hid (nextV l vs = ([], false)) := by rw [← HN.out]; exact (rfl : _ = _)
      go_wp2_with fail
      go_ret3
      rw [HE.out, HN0.out]
      exact ⟨_, rfl, Sl.none_, hbwr⟩
    | succ j =>
      rw [show ((j + 1 : Nat) : Int) - 1 = (j : Int) by omega]
      obtain ⟨g, cap, hov, hgc, hgb, hgl⟩ := OwnW.form hcur (by omega)
      rw [hcl] at hov hgc
      subst hov
      obtain ⟨b, o, x, iv, rfl, hD, hx, hvar, hiv, c0, c1, c2, c3, c4⟩ := (ht.now hbwr).at_ (k := j) (by omega)
      obtain ⟨bv, ovv, y, rfl, hDv, hy, hfy, d0, d1, d2⟩ := (htv.now hbwr).at_ (k := j) (by omega)
      have HX := Lib.hid hx
      have HY := Lib.hid hy
      have htm := tame_of (vars_each HV.out hx)
      have hpl := (assigned_at HA.out).2 j x y (by omega) hx hy
      have hpb := place_lt htm (HVV.out y (List.mem_of_getElem? hy))
      have hsz := sizeV_le htm
      have hs1 := size_pos htm
      have hitx := HIT.out x (List.mem_of_getElem? hx)
      have HFN := Lib.hid (fun (i : Nat) (hi : (i : Int) < sizeV x) => fit_nth htm hi hitx)
      clear hx hy hitx
      have HC := Lib.hid (place_any x y _ wr.drew (hvar.now (Below.refl _ _).drew) htm hfy)
      unfold valV at HC
      have i1 : (0 : Int) ≤ j := by omega
      have i3 : (j : Int) < (l.length : Int) := by omega
      have i4 : (j : Int) < (cur.length : Int) := by omega
      obtain ⟨zn, hzn⟩ := Int.eq_ofNat_of_zero_le hpl
      have HZ := Lib.hid hzn
      rw [hzn] at HC hpb
      clear hpl hzn
      have HSZ := Lib.hid (rfl : sizeV x = sizeV x)
      go_wp2_with fail
      go_region_with (go_at_call 111; refine HC.out.mono ?_; rintro e w5 ⟨rfl, hb5⟩)
      all_goals
        have hb5' : Below wr.heap.size wr w5 := below_drew_left hb5
        obtain ⟨e0, e1, e2, e3, e4⟩ := carry5 hb5' hD c0 c1 c2 c3 c4
        have hvar5 := hvar.now hb5'
        have hcur5 := hcur.now hb5'
        clear c0 c1 c2 c3 c4 d0 d1 d2
        go_wp2_with fail
        refine (size_any x _ _ hvar5 htm).mono ?_
        rintro e w6 ⟨rfl, hb6⟩
        have hb56 := bthen hb5' hb6
        obtain ⟨r0, r1, r2, r3, r4⟩ := carry5 hb6 (Nat.lt_of_lt_of_le hD hb5'.size) e0 e1 e2 e3 e4
        clear e0 e1 e2 e3 e4
        have hvar6 := hvar5.now hb6
        have hcur6 := hcur5.now hb6
        have HN1 := Lib.hid (fun (n : Nat) (hn : (n : Int) < sizeV x) => nth_any x n _ w6 hvar6 htm hn)
        have HN0 := HN1.out 0 (by omega)
        generalize hsx : sizeV x = sx at *
        have HSX := Lib.hid hsx
        clear hsx
        by_cases hz : (zn : Int) + 1 < sx
        · have HS := Lib.hid (nextFrom_yes (out := cur) HX.out HY.out (by rw [HZ.out, HSX.out]; exact hz))
          have hcall := HN1.out (zn + 1) (by omega)
          have hfn := HFN.out (zn + 1) (by omega)
          rw [show ((zn + 1 : Nat) : Int) = (zn : Int) + 1 by omega] at hcall hfn
          rw [HZ.out] at HS
          generalize nthV x ((zn : Int) + 1) = nv at *
          unfold valV at hcall
          have HCL := Lib.hid hcall
          clear HN1 HN0 hcall
          go_wp2_with fail
          refine HCL.out.mono ?_
          rintro e w7 ⟨rfl, hb7⟩
          have hcur7 : OwnV w7 w3.heap.size (.slice (some ⟨g, 0, none⟩) cur.length cap) cur := by rw [hcl]; exact hcur6.now hb7
          obtain ⟨cx, f0, f1, f2, z0, z1, z2⟩ := OwnV.cells hcur7 (k := j) (by omega)
          go_wp2_with fail
          go_ret3
          rw [HE.out, ← HN.out, HS.out]
          have hb37 : Below w3.heap.size w3 w7 := hbr.trans ((bthen hb56 hb7).mono hbr.size)
          refine ⟨.slice (some ⟨g, 0, none⟩) l.length cap, rfl, ?_, bthen hbw3 (bput3 hb37 hgb _ _ _ _ _ _)⟩
          have := (OwnV.set_ hcur7 (k := j) (by omega) nv).sl (fits_set HCF.out j hfn)
          rw [hcl] at this
          exact this
        · have HS := Lib.hid (nextFrom_no (out := cur) HX.out HY.out (by rw [HZ.out, HSX.out]; exact hz))
          have hfn := HFN.out 0 (by omega)
          rw [show ((0 : Nat) : Int) = 0 from rfl] at HN0 hfn
          generalize nthV x 0 = nv at *
          unfold valV at HN0
          have HCL := Lib.hid HN0
          clear HN1 HN0
          go_wp2_with fail
          refine HCL.out.mono ?_
          rintro e w7 ⟨rfl, hb7⟩
          have hcur7 : OwnV w7 w3.heap.size (.slice (some ⟨g, 0, none⟩) cur.length cap) cur := by rw [hcl]; exact hcur6.now hb7
          obtain ⟨cx, f0, f1, f2, z0, z1, z2⟩ := OwnV.cells hcur7 (k := j) (by omega)
          go_wp2_with fail
          have hb37 : Below w3.heap.size w3 w7 := hbr.trans ((bthen hb56 hb7).mono hbr.size)
          go_roundw
          case rel =>
            refine ⟨j, cur.set j nv, by omega, rfl, ?_, by rw [List.length_set]; exact hcl, fits_set HCF.out j hfn, by rw [← HS.out]; exact HN.out, bput3 hb37 hgb _ _ _ _ _ _⟩
            have := OwnV.set_ hcur7 (k := j) (by omega) nv
            rw [hcl] at this
            exact this
          case measure => simp [intOf]
end Go.Proofs.YtijmnenojbfdnaaGreatDoor
