/- Texts of this seat, merged. -/
import Derived.Test.YtoalecalahkblaaGreatDoorProg
import Derived.Deep.QuietTactic
import Derived.BigQuiet
import Derived.StillTailTactics
import Derived.RegionTactic
import Derived.Deep.CutRange
import Derived.Deep.CutBlock
import Derived.Laws.IdiomStrings
import Derived.Laws.BytesString
import Derived.Lib.AppendStr
import Derived.Lib.OwnKind
import Derived.Lib.OthersKept
import Derived.Lib.UnsafeStr
import Derived.Test.YtoalecalahkblaaGreatDoorIy01
import Derived.Test.YtoalecalahkblaaGreatDoorIy02
set_option linter.all false
set_option linter.all false
namespace Go.Proofs.YtoalecalahkblaaGreatDoor
open Go.RowKit
def bsOf (l : List UInt8) : ByteArray := ⟨l.toArray⟩
theorem bs_list (l : List UInt8) : (bsOf l).data.toList = l := rfl
theorem bs_size (l : List UInt8) : (bsOf l).size = l.length := by unfold bsOf ByteArray.size; simp
theorem bs_of (s : ByteArray) : bsOf s.data.toList = s := by unfold bsOf; rfl
def SlP (D : Nat → Prop) (w : World) (v : Value) (ls : List Bt) : Prop := SlS D w v (ls.map bsOf)
theorem SlP.keep {D D' : Nat → Prop} {w w' : World} {v : Value} {ls : List Bt} (h : SlP D w v ls) (hd : ∀ b, D b → D' b) (hs : Same D w w') : SlP D' w' v ls := Sl.keep h RStr.kept hd hs
theorem SlP.now {w w' : World} {v : Value} {ls : List Bt} (h : SlP (Lt w.heap.size) w v ls) (hb : Below w.heap.size w w') : SlP (Lt w'.heap.size) w' v ls := SlS.below h hb hb.size
theorem SlP.open_ {D : Nat → Prop} {w : World} {v : Value} {ls : List Bt} (h : SlP D w v ls) : ∃ A c, v = .slice A ls.length c ∧ ls.length ≤ c ∧ c ≤ 9223372036854775807 ∧ SlP D w (.slice A ls.length c) ls := by
  have := SlS.open_ h
  rw [List.length_map] at this
  exact this
theorem SlP.at_ {D : Nat → Prop} {w : World} {ls : List Bt} {A : Option Addr} {n c k : Nat} (h : SlP D w (.slice A n c) ls) (hk : k < n) :
    ∃ b o l, A = some ⟨b, o, none⟩ ∧ D b ∧ ls[k]? = some l ∧ l.length ≤ maxLen ∧ w.cell? ⟨b, o + k, none⟩ = some (.string (bsOf l)) := by
  obtain ⟨b, o, s, hA, hD, hx, hm, hc⟩ := SlS.at_ h hk
  rw [List.getElem?_map] at hx
  cases hl : ls[k]? with
  | none => rw [hl] at hx; cases hx
  | some l =>
    rw [hl] at hx
    injection hx with hx
    subst hx
    exact ⟨b, o, l, hA, hD, rfl, by rw [bs_size] at hm; exact hm, hc⟩
def RStrs : ElemR (List Bt) := fun D w r cs => ∃ v, cs = [v] ∧ SlP D w v r
theorem RStrs.kept : ElemR.Kept RStrs := by
  rintro D D' w w' x cs hd hs ⟨v, rfl, h⟩
  exact ⟨v, rfl, h.keep hd hs⟩
def SlSS := Sl 1 RStrs
theorem SlSS.at_ {D : Nat → Prop} {w : World} {rs : List (List Bt)} {A : Option Addr} {n c k : Nat} (h : SlSS D w (.slice A n c) rs) (hk : k < n) :
    ∃ b o r u, A = some ⟨b, o, none⟩ ∧ D b ∧ rs[k]? = some r ∧ SlP D w u r ∧ w.cell? ⟨b, o + k, none⟩ = some u := by
  obtain ⟨b, o, x, u, hA, hD, hx, ⟨u', hu, hf⟩, hc⟩ := Sl.at1 h hk
  injection hu with hu; subst hu
  exact ⟨b, o, x, u, hA, hD, hx, hf, hc⟩
theorem SlSS.now {w w' : World} {v : Value} {rs : List (List Bt)} (h : SlSS (Lt w.heap.size) w v rs) (hb : Below w.heap.size w w') : SlSS (Lt w'.heap.size) w' v rs := Sl.below h RStrs.kept hb hb.size
theorem SlSS.open_ {D : Nat → Prop} {w : World} {v : Value} {rs : List (List Bt)} (h : SlSS D w v rs) : ∃ A c, v = .slice A rs.length c ∧ rs.length ≤ c ∧ c ≤ 9223372036854775807 ∧ SlSS D w (.slice A rs.length c) rs := Sl.open_ h
theorem sepI (c : UInt8) : isSep c = (decide ((c.toNat : Int) = 44) || decide ((c.toNat : Int) = 59) || decide ((c.toNat : Int) = 124) || decide ((c.toNat : Int) = 9)) := by
  have h : ∀ k : UInt8, (c == k) = decide ((c.toNat : Int) = (k.toNat : Int)) := fun k => by
    by_cases e : c = k
    · rw [e, decide_eq_true rfl]; exact beq_self_eq_true k
    · have : c.toNat ≠ k.toNat := fun h => e (UInt8.toNat_inj.1 h)
      rw [decide_eq_false (by omega)]; exact beq_false_of_ne e
  unfold isSep
  rw [h 44, h 59, h 124, h 9]; rfl
theorem printI (c : UInt8) : printB c = (decide (32 ≤ (c.toNat : Int)) && decide ((c.toNat : Int) ≤ 126)) := by
  unfold printB
  have h1 : decide ((32 : UInt8) ≤ c) = decide (32 ≤ (c.toNat : Int)) := decide_eq_decide.2 (by rw [UInt8.le_iff_toNat_le]; show 32 ≤ c.toNat ↔ _; omega)
  have h2 : decide (c ≤ (126 : UInt8)) = decide ((c.toNat : Int) ≤ 126) := decide_eq_decide.2 (by rw [UInt8.le_iff_toNat_le]; show c.toNat ≤ 126 ↔ _; omega)
  rw [h1, h2]
theorem u8_ne {c k : UInt8} (h : c ≠ k) : ¬ (c.toNat : Int) = (k.toNat : Int) := fun e => h (UInt8.toNat_inj.1 (by omega))
theorem beqI (c k : UInt8) (n : Int) (hn : (k.toNat : Int) = n) : ((c.toNat : Int) == n) = (c == k) := by
  by_cases e : c = k
  · have h1 : (c == k) = true := by rw [e]; exact beq_self_eq_true k
    rw [h1, ← hn, e]; exact beq_self_eq_true _
  · have h1 : (c == k) = false := beq_false_of_ne e
    rw [h1, ← hn]
    exact beq_false_of_ne (u8_ne e)
end Go.Proofs.YtoalecalahkblaaGreatDoor

set_option linter.all false
namespace Go.Proofs.YtoalecalahkblaaGreatDoor
open Go.RowKit
theorem separates_any (c : UInt8) (w : World) : Calls Tryz.prog 39 #[.int .u8 (c.toNat : Int)] w fun e w' => e = .returned (.bool (isSep c)) ∧ w = w' := by
  have hs := sepI c
  generalize isSep c = q at *
  generalize (c.toNat : Int) = z at *
  have HS := Lib.hid hs
  clear hs
  by_cases h1 : z = 44
  · have HQ := Lib.hid (HS.out.trans (by rw [decide_eq_true h1]; rfl : _ = true))
    have e1 : (z == 44) = true := by rw [h1]; rfl
    clear HS h1
    go_enter Tryz.func39, Tryz.ntmps39
    go_wp2_with fail
    go_ret
    exact ⟨ret_bool HQ.out.symm, rfl⟩
  by_cases h2 : z = 59
  · have HQ := Lib.hid (HS.out.trans (by rw [decide_eq_true h2, Bool.or_true]; rfl : _ = true))
    have e1 : (z == 44) = false := by rw [h2]; rfl
    have e2 : (z == 59) = true := by rw [h2]; rfl
    clear HS h1 h2
    go_enter Tryz.func39, Tryz.ntmps39
    go_wp2_with fail
    go_ret
    exact ⟨ret_bool HQ.out.symm, rfl⟩
  by_cases h3 : z = 124
  · have HQ := Lib.hid (HS.out.trans (by rw [decide_eq_true h3, Bool.or_true]; rfl : _ = true))
    have e1 : (z == 44) = false := by rw [h3]; rfl
    have e2 : (z == 59) = false := by rw [h3]; rfl
    have e3 : (z == 124) = true := by rw [h3]; rfl
    clear HS h1 h2 h3
    go_enter Tryz.func39, Tryz.ntmps39
    go_wp2_with fail
    go_ret
    exact ⟨ret_bool HQ.out.symm, rfl⟩
  have e1 : (z == 44) = false := beq_false_of_ne h1
  have e2 : (z == 59) = false := beq_false_of_ne h2
  have e3 : (z == 124) = false := beq_false_of_ne h3
  have HQ := Lib.hid (HS.out.trans (by rw [decide_eq_false h1, decide_eq_false h2, decide_eq_false h3]; rfl : _ = decide (z = 9)))
  clear HS h1 h2 h3
  go_enter Tryz.func39, Tryz.ntmps39
  go_wp2_with fail
  go_ret
  exact ⟨ret_bool (by rw [HQ.out]; rfl), rfl⟩
theorem printable_any (c : UInt8) (w : World) : Calls Tryz.prog 43 #[.int .u8 (c.toNat : Int)] w fun e w' => e = .returned (.bool (printB c)) ∧ w = w' := by
  have HS := Lib.hid (printI c)
  generalize printB c = q at *
  generalize (c.toNat : Int) = z at *
  by_cases h1 : 32 ≤ z <;> by_cases h2 : z ≤ 126
  all_goals
    have HQ := Lib.hid (HS.out.trans (by simp only [h1, h2, decide_true, decide_false, Bool.and_true, Bool.true_and, Bool.and_false, Bool.false_and]; exact rfl))
    clear HS
    go_enter Tryz.func43, Tryz.ntmps43
    go_wp2_with fail
    go_ret
    exact ⟨ret_bool HQ.out.symm, rfl⟩
end Go.Proofs.YtoalecalahkblaaGreatDoor

set_option linter.all false
namespace Go.Proofs.YtoalecalahkblaaGreatDoor
open Go.RowKit
open Classical in
noncomputable def ext (w W : World) : World := if Below w.heap.size w W then W else w
theorem ext_below (w W : World) : Below w.heap.size w (ext w W) := by
  unfold ext; split
  · assumption
  · exact Below.refl _ _
theorem ext_of {w W : World} (h : Below w.heap.size w W) : ext w W = W := by unfold ext; rw [if_pos h]
theorem ext_ex {w W : World} (h : Below w.heap.size w W) : ∃ W', W = ext w W' := ⟨W, (ext_of h).symm⟩
theorem wp_region_grow {P : Program} {id : Nat} {Q : Exit → Act → World → Prop} {a : Act} {w : World} {l : List Oper} (hm : P.follows .mixedOrders = true) (hB : Region.lexB .any l.toArray = true)
    (h : wpQuiet P l.toArray (fun w' => ∃ W, w' = ext w W) (fun a' => ∀ w', (∃ W, w' = ext w W) → Q .normal a' w') l a) : (Code.region id l.toArray true).wp P Q a w :=
  wp_region_quiet (C := fun w' => ∃ W, w' = ext w W) hm hB (ext_ex ((Below.refl _ w).drew)) (by simpa using h)
theorem grow_of {P : Program} {f : FuncId} {args : Array Value} {w W : World} {v : Value}
    (h : Calls P f args (ext w W) fun e w' => e = .returned v ∧ Below (ext w W).heap.size (ext w W) w') : Calls P f args (ext w W) fun e w'' => e = .returned v ∧ ∃ W', w'' = ext w W' :=
  h.mono fun _ _ ⟨he, hb⟩ => ⟨he, ext_ex (bthen (ext_below w W) hb)⟩
theorem grow_same' {P : Program} {f : FuncId} {args : Array Value} {w W : World} {v : Value}
    (h : Calls P f args (ext w W) fun e w' => e = .returned v ∧ ext w W = w') : Calls P f args (ext w W) fun e w'' => e = .returned v ∧ ∃ W', w'' = ext w W' :=
  h.mono fun _ _ ⟨he, hb⟩ => ⟨he, W, hb.symm⟩
end Go.Proofs.YtoalecalahkblaaGreatDoor

set_option linter.all false
namespace Go.Proofs.YtoalecalahkblaaGreatDoor
open Go.RowKit
theorem i64wrap {n : Int} (h : -9223372036854775808 ≤ n ∧ n ≤ 9223372036854775807) : IntKind.i64.wrap n = n := by
  simp [IntKind.wrap, IntKind.bits, IntKind.signed]
  split <;> omega
structure Veil (p : Prop) : Prop where
  out : p
theorem veil_step {P : Program} {ops : Array Oper} {C : World → Prop} {Q : Act → Prop} {a : Act} {o : Oper} {rest : List Oper}
    (h : ∀ K : Act → Prop, (∀ a, Veil (wpQuiet P ops C Q rest a) → K a) → if Region.wanted o (yielded ops a.tmps) then o.quiet P a C K else K (a.put o.dst undef)) : Veil (wpQuiet P ops C Q (o :: rest) a) :=
  ⟨wpQuiet_step fun K hK => h K fun a ha => hK a ha.out⟩
theorem veil_nil {P : Program} {ops : Array Oper} {C : World → Prop} {Q : Act → Prop} {a : Act} (h : Q a) : Veil (wpQuiet P ops C Q [] a) := ⟨wpQuiet_nil h⟩
theorem wp_region_growV {P : Program} {id : Nat} {Q : Exit → Act → World → Prop} {a : Act} {w : World} {l : List Oper} (hm : P.follows .mixedOrders = true) (hB : Region.lexB .any l.toArray = true)
    (h : Veil (wpQuiet P l.toArray (fun w' => ∃ W, w' = ext w W) (fun a' => ∀ w', (∃ W, w' = ext w W) → Q .normal a' w') l a)) : (Code.region id l.toArray true).wp P Q a w :=
  wp_region_grow hm hB h.out
end Go.Proofs.YtoalecalahkblaaGreatDoor

set_option linter.all false
namespace Go.Proofs.YtoalecalahkblaaGreatDoor
open Go.RowKit
structure Chg (S : Nat → Prop) (w w' : World) : Prop where
  os : w'.os = w.os
  tape : w'.tape = w.tape
  output : w'.output = w.output
  size : w.heap.size ≤ w'.heap.size
  block : ∀ i, i < w.heap.size → ¬ S i → w'.heap[i]? = w.heap[i]?
section
variable {S T : Nat → Prop} {w w' w'' : World}
theorem Chg.refl : Chg S w w := ⟨rfl, rfl, rfl, Nat.le_refl _, fun _ _ _ => rfl⟩
theorem Chg.trans (h : Chg S w w') (k : Chg S w' w'') : Chg S w w'' :=
  ⟨k.os.trans h.os, k.tape.trans h.tape, k.output.trans h.output, Nat.le_trans h.size k.size, fun i hi hn => (k.block i (Nat.lt_of_lt_of_le hi h.size) hn).trans (h.block i hi hn)⟩
theorem Chg.mono (h : Chg S w w') (hs : ∀ i, i < w.heap.size → S i → T i) : Chg T w w' := ⟨h.os, h.tape, h.output, h.size, fun i hi hn => h.block i hi fun hs' => hn (hs i hi hs')⟩
theorem Chg.of_below (h : Below w.heap.size w w') : Chg S w w' := ⟨h.os, h.tape, h.output, h.size, fun i hi _ => h.block i hi⟩
theorem Chg.set (h : Chg S w w') {p : Addr} (hp : w.heap.size ≤ p.block ∨ S p.block) (u : Value) : Chg S w (w'.setCell p u) :=
  ⟨h.os, h.tape, h.output, by simpa using h.size, fun i hi hn => (Below.heap_setCell w' p u i fun e => by
    rcases hp with hp | hp
    · omega
    · rw [← e] at hp; exact hn hp).trans (h.block i hi hn)⟩
theorem Chg.alloc (h : Chg S w w') (o : Obj) : Chg S w (w'.alloc o) := h.trans (Chg.of_below (bone w' o))
theorem Chg.drew (h : Chg S w w') : Chg S w w'.drew := ⟨h.os, h.tape, h.output, h.size, h.block⟩
theorem Chg.below {B : Nat} (h : Chg S w w') (hB : B ≤ w.heap.size) (hs : ∀ i, i < B → ¬ S i) : Below B w w' := ⟨h.os, h.tape, h.output, h.size, fun i hi => h.block i (Nat.lt_of_lt_of_le hi hB) (hs i hi)⟩
theorem Blk.chg {g t : Nat} {cs : Array Value} (h : Blk w g t cs) (k : Chg S w w') (hg : ¬ S g) : Blk w' g t cs := (k.block g h.lt hg).trans h
end
def One (R : Nat) : Nat → Prop := fun i => i = R
end Go.Proofs.YtoalecalahkblaaGreatDoor

set_option linter.all false
namespace Go.Proofs.YtoalecalahkblaaGreatDoor
open Go.RowKit
abbrev rdrCells (s : ByteArray) (sep : UInt8) (i : Nat) (p : Int × Int) : Array Value := #[.string s, .int .u8 (sep.toNat : Int), .int .i64 (i : Int), .int .i64 p.1, .int .i64 p.2]
def RdC (w : World) (R : Nat) (s : ByteArray) (sep : UInt8) (i : Nat) : Prop := Blk w R 107 (rdrCells s sep i (plAt s.data.toList i))
theorem more_any (R : Nat) (s : ByteArray) (sep : UInt8) (i : Nat) (w : World) (h : RdC w R s sep i) (hs : s.size ≤ 16384) :
    Calls Tryz.prog 68 #[.pointer (some ⟨R, 0, none⟩)] w fun e w' => e = .returned (.bool (decide (i < s.size))) ∧ Below w.heap.size w w' := by
  obtain ⟨c0, c1, c2, c3, c4⟩ := Blk.c5 h
  go_enter Tryz.func68, Tryz.ntmps68
  go_upto_region 1 with fail
  go_quiet (fail)
  go_wp2_with fail
  go_ret
  exact ⟨rfl, bdrawn (Below.refl _ _) _⟩
theorem rdByte {s : ByteArray} {i : Nat} (h : i < s.size) : i < s.data.toList.length ∧ ∀ h' : i < s.data.toList.length, s.data.toList[i] = s[i] := ⟨by simpa using h, fun _ => rfl⟩
set_option maxHeartbeats 2000000 in
theorem next_any (R : Nat) (s : ByteArray) (sep : UInt8) (i : Nat) (w : World) (h : RdC w R s sep i) (hs : s.size ≤ 16384) (hi : i < s.size) :
    Calls Tryz.prog 70 #[.pointer (some ⟨R, 0, none⟩)] w fun e w' => e = .returned (.int .u8 (s[i].toNat : Int)) ∧ RdC w' R s sep (i + 1) ∧ Chg (One R) w w' := by
  have hb := plAt_bound s.data.toList i
  rw [show s.data.toList.length = s.size from by simp] at hb
  have hst := plAt_step (rdByte hi).1
  rw [(rdByte hi).2] at hst
  have h' : Blk w R 107 (rdrCells s sep i (plAt s.data.toList i)) := h
  have HRES : Hid (∀ w', Blk w' R 107 (rdrCells s sep (i + 1) (advP (plAt s.data.toList i) s[i])) → RdC w' R s sep (i + 1)) := by
    intro w' hB
    show Blk _ _ _ _
    rw [hst]; exact hB
  clear hst h
  obtain ⟨p, hp⟩ : ∃ p, plAt s.data.toList i = p := ⟨_, rfl⟩
  rw [hp] at h' HRES hb
  clear hp
  obtain ⟨p1, p2⟩ := p
  obtain ⟨c0, c1, c2, c3, c4⟩ := h'.c5
  have i1 : (0 : Int) ≤ (i : Int) := by omega
  have i2 : (i : Int) < (s.size : Int) := by omega
  simp only at hb c3 c4
  obtain ⟨c, hc⟩ : ∃ c, s[i] = c := ⟨_, rfl⟩
  rw [hc] at HRES
  have HC := Lib.hid hc
  clear hc
  have hbi : ((i : Int) + 1) = ((i + 1 : Nat) : Int) := by omega
  have HBI := Lib.hid hbi
  clear hbi
  go_enter Tryz.func70, Tryz.ntmps70
  go_upto_region 1 with fail
  go_quiet (fail)
  obtain ⟨wq, hwq⟩ : ∃ wq, w.drewN nq = wq := ⟨_, rfl⟩
  have hB : Blk wq R 107 (rdrCells s sep i (p1, p2)) := by rw [← hwq]; exact h'.drewN _
  have hbq : Chg (One R) w wq := by rw [← hwq]; exact Chg.of_below (bdrawn (Below.refl _ _) _)
  rw [hwq]
  clear hwq h' c0 c1 c2 c3 c4
  obtain ⟨c0, c1, c2, c3, c4⟩ := hB.c5
  have f2 := hB.frozen 2
  have f3 := hB.frozen 3
  have f4 := hB.frozen 4
  rw [HC.out]
  obtain ⟨z, hz⟩ : ∃ z, (c.toNat : Int) = z := ⟨_, rfl⟩
  rw [hz]
  have b1 : -9223372036854775808 ≤ p1 + 1 ∧ p1 + 1 ≤ 9223372036854775807 := by omega
  have b2 : -9223372036854775808 ≤ p2 + 1 ∧ p2 + 1 ≤ 9223372036854775807 := by omega
  by_cases h10 : c = 10
  · have e10 : (z == 10) = true := by rw [← hz, h10]; rfl
    have HA : Hid (advP (p1, p2) c = (p1 + 1, 1)) := by show _ = _; unfold advP; rw [if_pos h10]
    have HZ := Lib.hid hz
    clear h10 hz
    go_wp2_with fail
    go_ret
    have hk := (((hB.set_ 2 (.int .i64 ((i : Int) + 1))).set_ 4 (.int .i64 (p2 + 1))).set_ 3 (.int .i64 (p1 + 1))).set_ 4 (.int .i64 1)
    rw [HBI.out] at hk
    refine ⟨by show Ending.returned (Value.int .u8 z) = _; rw [HC.out, HZ.out], HRES.out _ (by rw [HA.out]; exact hk), ?_⟩
    exact (((hbq.set (p := ⟨R, 2, none⟩) (.inr rfl) _).set (p := ⟨R, 4, none⟩) (.inr rfl) _).set (p := ⟨R, 3, none⟩) (.inr rfl) _).set (p := ⟨R, 4, none⟩) (.inr rfl) _
  · have e10 : (z == 10) = false := by
      refine beq_false_of_ne ?_
      rw [← hz]; exact u8_ne h10
    have HA : Hid (advP (p1, p2) c = (p1, p2 + 1)) := by show _ = _; unfold advP; rw [if_neg h10]
    have HZ := Lib.hid hz
    clear h10 hz
    go_wp2_with fail
    go_ret
    have hk := (hB.set_ 2 (.int .i64 ((i : Int) + 1))).set_ 4 (.int .i64 (p2 + 1))
    rw [HBI.out] at hk
    refine ⟨by show Ending.returned (Value.int .u8 z) = _; rw [HC.out, HZ.out], HRES.out _ (by rw [HA.out]; exact hk), ?_⟩
    exact (hbq.set (p := ⟨R, 2, none⟩) (.inr rfl) _).set (p := ⟨R, 4, none⟩) (.inr rfl) _
def endsAt (sep : UInt8) (t : Bt) (i : Nat) : Bool := endsB sep (t.drop i)
theorem endsAt_end {sep : UInt8} {t : Bt} {i : Nat} (h : t.length ≤ i) : endsAt sep t i = true := by
  unfold endsAt; rw [List.drop_eq_nil_of_le h]; rfl
theorem endsAt_in {sep : UInt8} {t : Bt} {i : Nat} (h : i < t.length) : endsAt sep t i = (t[i] == 10 || t[i] == sep) := by
  unfold endsAt; rw [List.drop_eq_getElem_cons h]; rfl
set_option maxHeartbeats 4000000 in
set_option maxRecDepth 100000 in
theorem ends_any (R : Nat) (s : ByteArray) (sep : UInt8) (i : Nat) (w : World) (h : RdC w R s sep i) (hs : s.size ≤ 16384) :
    Calls Tryz.prog 117 #[.pointer (some ⟨R, 0, none⟩)] w fun e w' => e = .returned (.bool (endsAt sep s.data.toList i)) ∧ Below w.heap.size w w' := by
  have h' : Blk w R 107 (rdrCells s sep i (plAt s.data.toList i)) := h
  have HM : Hid (∀ W, Calls Tryz.prog 68 #[.pointer (some ⟨R, 0, none⟩)] (ext w W) fun e w' => e = .returned (.bool (decide (i < s.size))) ∧ Below (ext w W).heap.size (ext w W) w') := fun W => more_any R s sep i (ext w W) (h'.now (ext_below w W)) hs
  obtain ⟨p1, p2⟩ := plAt s.data.toList i
  have cc := fun W => (h'.now (ext_below w W)).c5
  have c0 := fun W => (cc W).1
  have c1 := fun W => (cc W).2.1
  have c2 := fun W => (cc W).2.2.1
  have i0 : (0 : Int) ≤ (i : Int) := by omega
  clear cc h' h
  by_cases hi : i < s.size
  · have hE := endsAt_in (sep := sep) (rdByte hi).1
    rw [(rdByte hi).2] at hE
    have i2 : (i : Int) < (s.size : Int) := by omega
    have HM2 : Hid (∀ W, Calls Tryz.prog 68 #[.pointer (some ⟨R, 0, none⟩)] (ext w W) fun e w' => e = .returned (.bool true) ∧ Below (ext w W).heap.size (ext w W) w') := fun W => by have := HM.out W; rwa [decide_eq_true hi] at this
    have e1 := beqI s[i] 10 10 rfl
    have e2 := beqI s[i] sep sep.toNat rfl
    have HE := Lib.hid hE
    generalize (s[i] == 10) = q1 at *
    generalize (s[i] == sep) = q2 at *
    clear hE HM
    cases q1
    · go_enter Tryz.func117, Tryz.ntmps117
      go_upto_region 1 with fail
      refine wp_region_growV (by kernel_rfl) (by kernel_rfl) ?_
      repeat (refine veil_step (fun K hK => ?_); go_simp; first | (refine hK _ ?_; clear hK K) | (apply Exists.intro; refine ⟨fun Wq => ?_, hK _ ?_⟩; ((go_at_call 68; exact grow_of (HM2.out Wq))); clear hK K))
      refine veil_nil ?_
      intro _ hw'
      obtain ⟨W, rfl⟩ := hw'
      go_wp2_with fail
      go_ret
      exact ⟨ret_bool (by rw [HE.out]; rfl), ext_below w W⟩
    · go_enter Tryz.func117, Tryz.ntmps117
      go_upto_region 1 with fail
      refine wp_region_growV (by kernel_rfl) (by kernel_rfl) ?_
      repeat (refine veil_step (fun K hK => ?_); go_simp; first | (refine hK _ ?_; clear hK K) | (apply Exists.intro; refine ⟨fun Wq => ?_, hK _ ?_⟩; ((go_at_call 68; exact grow_of (HM2.out Wq))); clear hK K))
      refine veil_nil ?_
      intro _ hw'
      obtain ⟨W, rfl⟩ := hw'
      go_wp2_with fail
      go_ret
      exact ⟨ret_bool (by rw [HE.out]; rfl), ext_below w W⟩
  · have HE := Lib.hid (endsAt_end (sep := sep) (t := s.data.toList) (i := i) (by have : s.data.toList.length = s.size := by simp
                                                                                  omega))
    have HM2 : Hid (∀ W, Calls Tryz.prog 68 #[.pointer (some ⟨R, 0, none⟩)] (ext w W) fun e w' => e = .returned (.bool false) ∧ Below (ext w W).heap.size (ext w W) w') := fun W => by have := HM.out W; rwa [decide_eq_false hi] at this
    clear HM hi
    go_enter Tryz.func117, Tryz.ntmps117
    go_upto_region 1 with fail
    refine wp_region_growV (by kernel_rfl) (by kernel_rfl) ?_
    repeat (refine veil_step (fun K hK => ?_); go_simp; first | (refine hK _ ?_; clear hK K) | (apply Exists.intro; refine ⟨fun Wq => ?_, hK _ ?_⟩; ((go_at_call 68; exact grow_of (HM2.out Wq))); clear hK K))
    refine veil_nil ?_
    intro _ hw'
    obtain ⟨W, rfl⟩ := hw'
    go_wp2_with fail
    go_ret
    exact ⟨ret_bool (by rw [HE.out]), ext_below w W⟩
end Go.Proofs.YtoalecalahkblaaGreatDoor

set_option linter.all false
namespace Go.Proofs.YtoalecalahkblaaGreatDoor
open Go.RowKit
section
variable {α : Type} {fc : α → List Value} {size : Nat}
def flat (fc : α → List Value) (xs : List α) : List Value := xs.flatMap fc
theorem flat_len (hfc : ∀ x, (fc x).length = size) (xs : List α) : (flat fc xs).length = xs.length * size := by
  induction xs with
  | nil => simp [flat]
  | cons x xs ih =>
    have : flat fc (x :: xs) = fc x ++ flat fc xs := rfl
    rw [this, List.length_append, hfc, ih, List.length_cons, Nat.succ_mul]; omega
theorem flat_get (hfc : ∀ x, (fc x).length = size) (xs : List α) : ∀ (i j : Nat) (x : α), xs[i]? = some x → j < size → (flat fc xs)[i * size + j]? = (fc x)[j]? := by
  induction xs with
  | nil => intro i j x hx; simp at hx
  | cons y xs ih =>
    intro i j x hx hj
    have e : flat fc (y :: xs) = fc y ++ flat fc xs := rfl
    rw [e]
    cases i with
    | zero =>
      injection hx with hx; subst hx
      rw [Nat.zero_mul, Nat.zero_add, List.getElem?_append_left (by rw [hfc]; exact hj)]
    | succ i =>
      rw [List.getElem?_append_right (by rw [hfc, Nat.succ_mul]; omega), hfc]
      have : (i + 1) * size + j - size = i * size + j := by rw [Nat.succ_mul]; omega
      rw [this]
      exact ih i j x (by simpa using hx) hj
theorem flat_at (hfc : ∀ x, (fc x).length = size) (hs : 0 < size) (xs : List α) {j : Nat} {u : Value} (h : (flat fc xs)[j]? = some u) : ∃ i r x, j = i * size + r ∧ r < size ∧ xs[i]? = some x ∧ (fc x)[r]? = some u := by
  have hj : j < xs.length * size := by
    rw [← flat_len hfc]
    rcases Nat.lt_or_ge j (flat fc xs).length with h' | h'
    · exact h'
    · rw [List.getElem?_eq_none h'] at h; cases h
  have hi : j / size < xs.length := Nat.div_lt_of_lt_mul (by rw [Nat.mul_comm]; exact hj)
  have hr : j % size < size := Nat.mod_lt _ hs
  have e : j = j / size * size + j % size := by rw [Nat.mul_comm]; exact (Nat.div_add_mod j size).symm
  refine ⟨j / size, j % size, xs[j / size], e, hr, List.getElem?_eq_getElem hi, ?_⟩
  rw [← flat_get hfc xs (j / size) (j % size) _ (List.getElem?_eq_getElem hi) hr, ← e]
  exact h
theorem flat_append (xs ys : List α) : flat fc (xs ++ ys) = flat fc xs ++ flat fc ys := by simp [flat]
def OwnW (size : Nat) (fc : α → List Value) (w : World) (base t : Nat) (v : Value) (xs : List α) : Prop := w.ownsRow base t size v xs.length (flat fc xs)
variable {R : ElemR α} {w w' : World} {base t : Nat} {v : Value} {xs : List α}
theorem OwnW.nil : OwnW size fc w base t (.slice none 0 0) ([] : List α) := World.ownsRow_nil _ _ _ _
theorem OwnW.now (h : OwnW size fc w base t v xs) (hb : Below w.heap.size w w') : OwnW size fc w' base t v xs := own_now h hb
theorem OwnW.sl (h : OwnW size fc w base t v xs) (hfc : ∀ x, (fc x).length = size) (hR : ∀ D w x, x ∈ xs → R D w x (fc x)) : Sl size R (Lt w.heap.size) w v xs :=
  Sl.of_own h rfl (own_lt h) fun i x hx => ⟨fc x, hfc x, fun j u hu => by
    have hj : j < size := by
      rw [← hfc x]
      rcases Nat.lt_or_ge j (fc x).length with h' | h'
      · exact h'
      · rw [List.getElem?_eq_none h'] at hu; cases hu
    rw [flat_get hfc xs i j x hx hj]; exact hu, hR _ _ x (List.mem_of_getElem? hx)⟩
theorem OwnW.form (h : OwnW size fc w base t v xs) (hn : 0 < xs.length) : ∃ g cap, v = .slice (some ⟨g, 0, none⟩) xs.length cap ∧ xs.length ≤ cap ∧ base ≤ g ∧ g < w.heap.size := by
  have hl := World.ownsRow.lt h
  rcases h.2 with ⟨_, h0⟩ | ⟨g, cap, cur, rfl, hb, hg, hc, hm, hs, htake⟩
  · omega
  · exact ⟨g, cap, rfl, hc, hb, (hl g rfl).2⟩
theorem wpList_pushW {P : Program} {e : Nat} {ops : Array Oper} {rest : List Oper} {o : Oper} {a : Act} {Q : Exit → Act → World → Prop} (hI : AppInfo P t e size) (hgd : o.guard = none) (s x : Operand)
    (ho : o.op = .call { callee := .builtin .append, args := #[s, x], argTypes := #[t, t] }) (w0 : World) (y : α) (xs : List α) (hfc : (fc y).length = size) (h1 : ∀ u ∈ fc y, u.oneCell' = true)
    (v : Value) (hs : a.eval s = v) (hown : OwnW size fc w0 base e v xs) (hx : a.eval x = .slice (some ⟨w0.heap.size, 0, none⟩) 1 1) (hn : xs.length < 10000000) (hbase : base ≤ w0.heap.size)
    (h : ∀ v' w', OwnW size fc w' base e v' (xs ++ [y]) → w0.grownBy w' v.ownBlock → (v'.ownBlock = v.ownBlock ∨ v'.ownBlock = some (w0.heap.size + 1)) → wpList P ops Q rest (a.put o.dst v') w') : wpList P ops Q (o :: rest) a (w0.alloc (.cells (fc y).toArray e)) :=
  wpList_push hI hgd s x ho w0 (fc y) hfc h1 v xs.length (flat fc xs) hs hown hx hn hbase fun v' w' h2 h3 h4 => h v' w' (by
    unfold OwnW
    rw [flat_append, List.length_append]
    simpa [flat] using h2) h3 h4
end
end Go.Proofs.YtoalecalahkblaaGreatDoor

set_option linter.all false
namespace Go.Proofs.YtoalecalahkblaaGreatDoor
open Go.RowKit
theorem conv_nil {P : Program} (w : World) (src dst e : TypeId) (c : Nat) (hs : P.underlying src = some (.slice e)) (he : P.underlying e = some (.int .u8)) (hd : P.underlying dst = some .string) :
    (convert src dst (.slice none 0 c)).run P w = .ok (.string ⟨#[]⟩) w := by
  rw [run_convert_bytes_string w src dst e none 0 c hs he hd]
  simp [Conv.bytesToString]
  rfl
def cellC (c : UInt8) : List Value := [.int .u8 (c.toNat : Int)]
theorem cellC_one (c : UInt8) : ∀ u ∈ cellC c, u.oneCell' = true := by intro u hu; simp [cellC] at hu; subst hu; rfl
def OwnC (w : World) (base : Nat) (v : Value) (l : List UInt8) : Prop := OwnW 1 cellC w base 5 v l
theorem appBytes : AppInfo Tryz.prog 72 5 1 := AppInfo.mk' (z := .int .u8 0) (bytes := 1) Tryz.underlying72 (by kernel_rfl) (by decide) rfl (by decide)
theorem flatC (l : List UInt8) : flat cellC l = l.map fun c => .int .u8 (c.toNat : Int) := by
  unfold flat cellC
  induction l with
  | nil => rfl
  | cons a l ih => rw [List.flatMap_cons, ih]; rfl
theorem OwnC.now {w w' : World} {base : Nat} {v : Value} {l : List UInt8} (h : OwnC w base v l) (hb : Below w.heap.size w w') : OwnC w' base v l := OwnW.now h hb
theorem OwnC.conv {w : World} {base : Nat} {v : Value} {l : List UInt8} (h : OwnC w base v l) : (convert 72 9 v).run Tryz.prog w = .ok (.string ⟨l.toArray⟩) w := by
  rcases Nat.eq_zero_or_pos l.length with h0 | h0
  · have : l = [] := List.eq_nil_of_length_eq_zero h0
    subst this
    rcases h.2 with ⟨rfl, _⟩ | ⟨g, cap, cur, rfl, _⟩
    · exact conv_nil w _ _ _ 0 Tryz.underlying72 Tryz.underlying5 Tryz.underlying9
    · exact run_convert_bytes_back w _ _ _ ⟨g, 0, none⟩ cap [] Tryz.underlying72 Tryz.underlying5 Tryz.underlying9 (fun j hj => absurd hj (by simp))
  · obtain ⟨g, cap, rfl, _, _, _⟩ := OwnW.form h h0
    refine run_convert_bytes_back w _ _ _ ⟨g, 0, none⟩ cap l Tryz.underlying72 Tryz.underlying5 Tryz.underlying9 (fun j hj => ?_)
    have hc := World.ownsRow.cellAt h j (by omega)
    have e : ((⟨g, 0, none⟩ : Addr).add j) = ⟨g, j, none⟩ := by unfold Addr.add; by_cases hj : j = 0 <;> simp [hj]
    rw [e, hc, flatC]
    simp [List.getElem?_eq_getElem hj]
end Go.Proofs.YtoalecalahkblaaGreatDoor

set_option linter.all false
namespace Go.Proofs.YtoalecalahkblaaGreatDoor
open Go.RowKit
def Hat (w : World) (v v' : Value) : Prop := ∀ g, v'.ownBlock = some g → v.ownBlock = some g ∨ w.heap.size ≤ g
structure Adds (base : Nat) (w : World) (v : Value) (l : List UInt8) (w' : World) (v' : Value) : Prop where
  own : OwnC w' base v' l
  grown : w.grownBy w' v.ownBlock
  hat : Hat w v v'
theorem Adds.trans {base : Nat} {w w1 w2 : World} {v v1 v2 : Value} {l1 l2 : List UInt8} (h : Adds base w v l1 w1 v1) (k : Adds base w1 v1 l2 w2 v2) : Adds base w v l2 w2 v2 :=
  ⟨k.own, ⟨k.grown.os.trans h.grown.os, k.grown.tape.trans h.grown.tape, k.grown.output.trans h.grown.output, Nat.le_trans h.grown.size k.grown.size, fun i hi hne => by
    have h1 := h.grown.block i hi hne
    refine (k.grown.block i (Nat.lt_of_lt_of_le hi h.grown.size) (fun e => ?_)).trans h1
    rcases h.hat i e.symm with e2 | e2
    · exact hne e2.symm
    · omega⟩, fun g hg => by
    rcases k.hat g hg with e | e
    · exact h.hat g e
    · exact .inr (Nat.le_trans h.grown.size e)⟩
theorem Adds.pre {base : Nat} {w w1 w2 : World} {v v2 : Value} {l2 : List UInt8} (hb : Below w.heap.size w w1) (k : Adds base w1 v l2 w2 v2) : Adds base w v l2 w2 v2 :=
  ⟨k.own, ⟨k.grown.os.trans hb.os, k.grown.tape.trans hb.tape, k.grown.output.trans hb.output, Nat.le_trans hb.size k.grown.size, fun i hi hne => (k.grown.block i (Nat.lt_of_lt_of_le hi hb.size) hne).trans (hb.block i hi)⟩, fun g hg => by
    rcases k.hat g hg with e | e
    · exact .inl e
    · exact .inr (Nat.le_trans hb.size e)⟩
theorem Adds.post {base : Nat} {w w1 w2 : World} {v v1 : Value} {l : List UInt8} (h : Adds base w v l w1 v1) (hb : Below w1.heap.size w1 w2) : Adds base w v l w2 v1 :=
  ⟨h.own.now hb, ⟨hb.os.trans h.grown.os, hb.tape.trans h.grown.tape, hb.output.trans h.grown.output, Nat.le_trans h.grown.size hb.size, fun i hi hne => (hb.block i (Nat.lt_of_lt_of_le hi h.grown.size)).trans (h.grown.block i hi hne)⟩, h.hat⟩
theorem Adds.below {base : Nat} {w w' : World} {v v' : Value} {l l0 : List UInt8} (h : Adds base w v l w' v') (h0 : OwnC w base v l0) (hb : base ≤ w.heap.size) : Below base w w' :=
  below_of_grown h.grown hb fun g hg => (World.ownsRow.lt h0 g hg).1
theorem Adds.refl {base : Nat} {w : World} {v : Value} {l : List UInt8} (h : OwnC w base v l) : Adds base w v l w v := ⟨h, World.grownBy.refl _ _, fun _ hg => .inl hg⟩
theorem Adds.keep {base : Nat} {w w' : World} {v v' : Value} {l l0 : List UInt8} {g t : Nat} {cs : Array Value} (h : Adds base w v l w' v') (h0 : OwnC w base v l0) (hB : Blk w g t cs) (ht : t ≠ 5) : Blk w' g t cs := by
  refine hB.grown h.grown fun e => ?_
  obtain ⟨c, fz, hc⟩ := Lib.ownsRow_kind h0 g e.symm
  have := hB.symm.trans hc
  injection this with this
  injection this with _ e2 _
  exact ht e2
section
variable {base : Nat} {w : World} {v : Value} {l : List UInt8} {o : Oper} {a : Act} {K : Act → World → Prop} {Q : Exit → Act → World → Prop}
theorem wpList_pushC {ops : Array Oper} {rest : List Oper} (hgd : o.guard = none) (sl x : Operand) (ho : o.op = .call { callee := .builtin .append, args := #[sl, x], argTypes := #[72, 72] }) (c : UInt8) (z : Int) (hz : z = (c.toNat : Int)) (hs : a.eval sl = v) (hown : OwnC w base v l) (hx : a.eval x = .slice (some ⟨w.heap.size, 0, none⟩) 1 1) (hn : l.length < 10000000) (hbase : base ≤ w.heap.size)
    (h : ∀ v' w', Adds base w v (l ++ [c]) w' v' → wpList Tryz.prog ops Q rest (a.put o.dst v') w') : wpList Tryz.prog ops Q (o :: rest) a (w.alloc (.cells #[.int .u8 z] 5)) := by
  subst hz
  refine wpList_pushW (fc := cellC) appBytes hgd sl x ho w c l rfl (cellC_one c) v hs hown hx hn hbase fun v' w' h2 h3 h4 => h v' w' ⟨h2, h3, fun g hg => ?_⟩
  rcases h4 with e | e
  · exact .inl (e ▸ hg)
  · rw [e] at hg; injection hg with hg; exact .inr (by omega)
end
end Go.Proofs.YtoalecalahkblaaGreatDoor
