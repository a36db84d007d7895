/- Texts of this seat, merged. -/
import Derived.Laws.IdiomStrings
import Derived.Laws.BytesString
import Derived.Lib.OwnKind
import Derived.Orders
import Derived.Deep.Quiet
import Derived.StillTail
import Derived.Deep.RegionHeld
import Derived.Deep.RegionHeld3
import Derived.Test.YtoalecalahkblaaGreatDoorIx01
import Derived.Test.YtoalecalahkblaaGreatDoorIx02
import Derived.Test.YtoalecalahkblaaGreatDoorIx03
set_option linter.all false
set_option linter.all false
namespace Go.Proofs.YtoalecalahkblaaGreatDoor
open Go.RowKit
def RowBi (w : World) (g : Nat) (l : List UInt8) : Prop := ∀ k c, l[k]? = some c → w.cell? ⟨g, k, none⟩ = some (.int .u8 (c.toNat : Int))
theorem any_false_i {α : Type} (p : α → Bool) (xs : List α) (h : ∀ q y, q < xs.length → xs[q]? = some y → p y = false) : xs.any p = false := by
  rw [List.any_eq_false]
  intro x hx
  obtain ⟨q, hq, rfl⟩ := List.mem_iff_getElem.1 hx
  rw [h q _ hq (List.getElem?_eq_getElem hq)]; simp
theorem rowB_newi (w : World) (s : ByteArray) (cap t : Nat) (fr : Nat × Nat) : RowBi (w.alloc (.cells (bytesRow s cap) t fr)).drew w.heap.size s.data.toList := by
  intro k c hk
  rw [Array.getElem?_toList] at hk
  have hkl : k < s.data.size := by
    rcases Nat.lt_or_ge k s.data.size with h | h
    · exact h
    · rw [Array.getElem?_eq_none h] at hk; cases hk
  have h1 : (w.alloc (.cells (bytesRow s cap) t fr)).drew.heap[w.heap.size]? = some (.cells (bytesRow s cap) t fr) := by
    show (w.heap.push _)[w.heap.size]? = _
    simp
  simp only [World.cell?, h1]
  simp only [Option.isSome_none, Bool.false_eq_true, if_false]
  unfold bytesRow
  rw [Array.getElem?_append_left (by simpa using hkl), Array.getElem?_map, hk]
  rfl
theorem prt1_any (c : UInt8) (w : World) : Calls Tryz.prog 42 #[.int .u8 (c.toNat : Int)] w fun e w' => e = .returned (.bool (!printB c)) ∧ w = w' := by
  have HP := Lib.hid (printable_any c)
  generalize printB c = q at *
  generalize (c.toNat : Int) = z at *
  go_enter Tryz.func42, Tryz.ntmps42
  go_wp2_with fail
  (with_reducible refine (HP.out _).mono ?_)
  rintro _ w' ⟨rfl, rfl⟩
  go_wp2_with fail
  go_ret
  exact ⟨rfl, rfl⟩
set_option maxHeartbeats 400000 in
theorem indexPrB (g c : Nat) (l : List UInt8) (w : World) (hl : l.length ≤ 1000000) (h : RowBi w g l) :
    Calls Tryz.prog 91 #[.slice (some ⟨g, 0, none⟩) l.length c, .func (.func 42) #[] #[]] w fun e w' => ∃ z : Int, e = .returned (.int .i64 z) ∧ decide (0 ≤ z) = (l.any fun x => !printB x) ∧ w = w' := by
  have eg : ∀ args w, (callFunc 42 args).run Tryz.prog w = .ok (.enter 42 args) w := enters_of Tryz.func42 (by kernel_rfl) rfl
  have HH := Lib.hid h
  clear h
  go_enter Tryz.func91, Tryz.ntmps91
  go_wp2_with fail
  go_loopw [8] (fun i wr => ∃ j : Nat, j ≤ l.length ∧ i = .int .i64 j ∧ (∀ q t, q < j → l[q]? = some t → (!printB t) = false) ∧ wr = w) (fun i _ => l.length - (intOf i).toNat)
  case atStart => exact ⟨0, Nat.zero_le _, rfl, fun q _ h => absurd h (by omega), rfl⟩
  case round =>
    obtain ⟨j, hj, rfl, hp, rfl⟩ := hrel
    have HP := Lib.hid hp
    clear hp
    by_cases hlt : j < l.length
    · have HX : Hid (l[j]? = some l[j]) := List.getElem?_eq_getElem hlt
      have c0 := HH.out j _ HX.out
      have HC := Lib.hid (fun W => prt1_any l[j] W)
      generalize l[j] = x at *
      generalize hq : printB x = q at *
      have HQ := Lib.hid hq
      clear hq
      cases q
      · go_wp2_with (go_at_fn 42; refine (HC.out _).mono ?_; rintro e w' ⟨rfl, rfl⟩)
        go_ret
        refine ⟨_, rfl, ?_, rfl⟩
        have : (l.any fun x => !printB x) = true := List.any_eq_true.2 ⟨x, List.mem_of_getElem? HX.out, by rw [HQ.out]; rfl⟩
        rw [this]
        simp
      · go_wp2_with (go_at_fn 42; refine (HC.out _).mono ?_; rintro e w' ⟨rfl, rfl⟩)
        go_roundw
        case rel =>
          refine ⟨j + 1, by omega, by go_num, fun q y hq hy => ?_, trivial⟩
          by_cases e : q = j
          · subst e; rw [HX.out] at hy; injection hy with hy; subst hy; rw [HQ.out]; rfl
          · exact HP.out q y (by omega) hy
        case measure => simp [intOf]; omega
    · go_wp2_with fail
      go_ret
      refine ⟨_, rfl, ?_, rfl⟩
      rw [any_false_i _ l (fun q y hq hy => HP.out q y (by omega) hy)]
      simp
theorem containsPrB (g c : Nat) (l : List UInt8) (w : World) (hl : l.length ≤ 1000000) (h : RowBi w g l) :
    Calls Tryz.prog 41 #[.slice (some ⟨g, 0, none⟩) l.length c, .func (.func 42) #[] #[]] w fun e w' => e = .returned (.bool (l.any fun x => !printB x)) ∧ w = w' := by
  have HC := Lib.hid (indexPrB g c l w hl h)
  clear h
  go_enter Tryz.func41, Tryz.ntmps41
  go_wp2_with (go_at_call 91; refine HC.out.mono ?_; rintro e w' ⟨z, rfl, hz, rfl⟩)
  go_ret
  exact ⟨rfl, rfl⟩
theorem cellBad_any (s : ByteArray) (w : World) (hs : s.size ≤ 1000000) : Calls Tryz.prog 40 #[.string s] w fun e w' => e = .returned (.bool (s.data.toList.any fun c => !printB c)) ∧ Below w.heap.size w w' := by
  have hconv := fun w => run_bytes_of_string (P := Tryz.prog) w 9 72 5 s Tryz.underlying9 Tryz.underlying72 Tryz.underlying5
  go_enter Tryz.func40, Tryz.ntmps40
  go_wp2_with fail
  refine (containsPrB w.heap.size _ s.data.toList _ (by rw [Array.length_toList]; show s.size ≤ _; omega) (rowB_newi w s _ _ _)).mono ?_
  rintro e w1 ⟨rfl, rfl⟩
  obtain ⟨q, hq⟩ : ∃ q, (s.data.toList.any fun x => !printB x) = q := ⟨_, rfl⟩
  rw [hq]
  have HQ := Lib.hid hq
  clear hq
  go_wp2_with fail
  go_ret
  exact ⟨ret_bool HQ.out.symm, (bone w _).drew⟩
theorem enters_cellBad : ∀ args w, (callFunc 40 args).run Tryz.prog w = .ok (.enter 40 args) w := enters_of Tryz.func40 (by kernel_rfl) rfl
theorem any_not_print (l : Bt) : (l.any fun x => !printB x) = !l.all printB := by
  induction l with
  | nil => rfl
  | cons a m ih => simp [List.any_cons, List.all_cons, ih]
theorem rowBad_eq : ∀ r : List Bt, ((r.map bsOf).any fun s => s.data.toList.any fun c => !printB c) = !r.all fun b => b.all printB
  | [] => rfl
  | b :: r => by
    have ih := rowBad_eq r
    have hb := any_not_print b
    rw [List.map_cons, List.any_cons, List.all_cons, ih]
    show ((b.any fun c => !printB c) || _) = _
    rw [hb]
    cases (b.all printB) <;> cases (r.all fun b => b.all printB) <;> rfl
theorem rowBad_any (v : Value) (r : List Bt) (w : World) (h : SlP (Lt w.heap.size) w v r) (hl : ∀ b ∈ r, b.length ≤ 1000000) :
    Calls Tryz.prog 28 #[v, .func (.func 40) #[] #[]] w fun e w' => e = .returned (.bool (!r.all fun b => b.all printB)) ∧ Below w.heap.size w w' := by
  have hf : AsksF 40 #[] RStr w (r.map bsOf) (fun s => s.data.toList.any fun c => !printB c) := by
    intro x u W hx hr _
    obtain ⟨rfl, _⟩ : u = .string x ∧ x.size ≤ maxLen := by
      obtain ⟨h1, h2⟩ := hr
      injection h1 with h1
      exact ⟨h1, h2⟩
    obtain ⟨b, hb, rfl⟩ := List.mem_map.1 hx
    exact cellBad_any (bsOf b) W (by rw [bs_size]; exact hl b hb)
  have hc := contFS 40 #[] enters_cellBad v (r.map bsOf) _ w h hf
  have e := rowBad_eq r
  rw [e] at hc
  exact hc
end Go.Proofs.YtoalecalahkblaaGreatDoor

set_option linter.all false
namespace Go.Proofs.YtoalecalahkblaaGreatDoor
open Go.RowKit
structure RowW (w : World) (B g : Nat) (l : List UInt8) : Prop where
  cell : RowBi w g l
  froz : ∀ k, k < l.length → w.frozen? ⟨g, k, none⟩ = false
  lt : g < w.heap.size
  ge : B ≤ g
theorem RowW.set_ {w : World} {B g : Nat} {l : List UInt8} (h : RowW w B g l) (k : Nat) (c : UInt8) : RowW (w.setCell ⟨g, k, none⟩ (.int .u8 (c.toNat : Int))) B g (l.set k c) := by
  refine ⟨fun j d hj => ?_, fun j hj => ?_, by simpa using h.lt, h.ge⟩
  · have hjl : j < l.length := by
      rcases Nat.lt_or_ge j (l.set k c).length with h' | h'
      · simpa using h'
      · rw [List.getElem?_eq_none h'] at hj; cases hj
    have hc := h.cell j l[j] (List.getElem?_eq_getElem hjl)
    by_cases e : k = j
    · subst e
      rw [List.getElem?_set_self hjl] at hj
      injection hj with hj; subst hj
      exact World.cell?_setCell_same (w := w) (a := ⟨g, k, none⟩) (v := .int .u8 (c.toNat : Int)) hc
    · rw [List.getElem?_set_ne e] at hj
      rw [World.cell?_setCell_other (w := w) (a := ⟨g, k, none⟩) (b := ⟨g, j, none⟩) (v := .int .u8 (c.toNat : Int)) (fun h' => e (by injection h'))]
      exact h.cell j d hj
  · rw [World.frozen?_setCell]
    exact h.froz j (by simpa using hj)
theorem RowW.now {w w' : World} {B g : Nat} {l : List UInt8} (h : RowW w B g l) (hb : Below w.heap.size w w') : RowW w' B g l := by
  have hg := hb.block g h.lt
  refine ⟨fun k c hk => ?_, fun k hk => ?_, Nat.lt_of_lt_of_le h.lt hb.size, h.ge⟩
  · rw [← h.cell k c hk]; simp only [World.cell?, hg]
  · rw [← h.froz k hk]; simp only [World.frozen?, hg]
theorem RowW.conv {w : World} {B g : Nat} {l : List UInt8} (h : RowW w B g l) (cap : Nat) : (convert 72 9 (.slice (some ⟨g, 0, none⟩) l.length cap)).run Tryz.prog w = .ok (.string (bsOf l)) w := by
  refine run_convert_bytes_back w _ _ _ ⟨g, 0, none⟩ cap l Tryz.underlying72 Tryz.underlying5 Tryz.underlying9 (fun j hj => ?_)
  have e : ((⟨g, 0, none⟩ : Addr).add j) = ⟨g, j, none⟩ := by unfold Addr.add; by_cases hj : j = 0 <;> simp [hj]
  rw [e]
  exact h.cell j _ (List.getElem?_eq_getElem hj)
def lowN (l : Bt) (j : Nat) : Bt := (l.take j).map lowB ++ l.drop j
def SmPost (s : ByteArray) (w : World) (e : Ending) (w' : World) : Prop := e = .returned (.string (bsOf (smallB s.data.toList))) ∧ Below w.heap.size w w'
end Go.Proofs.YtoalecalahkblaaGreatDoor

set_option linter.all false
namespace Go.Proofs.YtoalecalahkblaaGreatDoor
open Go.RowKit
def SmlP (s : ByteArray) (w : World) (e : Ending) (w' : World) : Prop := e = .returned (.string (bsOf (smallB s.data.toList))) ∧ Below w.heap.size w w'
end Go.Proofs.YtoalecalahkblaaGreatDoor

set_option linter.all false
namespace Go.Proofs.YtoalecalahkblaaGreatDoor
open Go.RowKit
theorem bsOf_inj {a b : Bt} (h : bsOf a = bsOf b) : a = b := by
  have := congrArg (fun x : ByteArray => x.data.toList) h
  simpa [bs_list] using this
end Go.Proofs.YtoalecalahkblaaGreatDoor

set_option linter.all false
namespace Go.Proofs.YtoalecalahkblaaGreatDoor
open Go.RowKit
def REq1 {α : Type} (f : α → Value) : ElemR α := fun _ _ y c => c = [f y]
structure GsR (B : Nat) (W0 w : World) (dv kv sv : Value) (data kinds : List Int) (seen : List Bt) : Prop where
  bel : Below W0.heap.size W0 w
  dat : OwnZ w B dv data
  kin : OwnZ w B kv kinds
  sn : OwnT w B sv seen
  ne : ∀ g, dv.ownBlock = some g → kv.ownBlock ≠ some g
  size : B ≤ w.heap.size
  base : W0.heap.size ≤ B
structure OffG (w : World) (dv kv sv : Value) (g t : Nat) (cs : Array Value) : Prop where
  blk : Blk w g t cs
  n1 : dv.ownBlock ≠ some g
  n2 : kv.ownBlock ≠ some g
  n3 : sv.ownBlock ≠ some g
section
variable {B g t : Nat} {W0 w w' : World} {dv kv sv : Value} {data kinds : List Int} {seen : List Bt} {cs : Array Value}
theorem OwnZ.now {base : Nat} {v : Value} {zs : List Int} (h : OwnZ w base v zs) (hb : Below w.heap.size w w') : OwnZ w' base v zs := own_now h hb
theorem GsR.now (h : GsR B W0 w dv kv sv data kinds seen) (hb : Below w.heap.size w w') : GsR B W0 w' dv kv sv data kinds seen :=
  ⟨h.bel.trans (hb.mono h.bel.size), own_now h.dat hb, own_now h.kin hb, own_now h.sn hb, h.ne, Nat.le_trans h.size hb.size, h.base⟩
theorem OffG.now (h : OffG w dv kv sv g t cs) (hb : Below w.heap.size w w') : OffG w' dv kv sv g t cs := ⟨h.blk.now hb, h.n1, h.n2, h.n3⟩
theorem OffG.new (h : GsR B W0 w dv kv sv data kinds seen) (t : Nat) (cs : Array Value) : OffG (w.alloc (.cells cs t)) dv kv sv w.heap.size t cs :=
  ⟨Blk.new w t cs, fun e => by have := own_lt h.dat _ e; unfold Lt at this; omega, fun e => by have := own_lt h.kin _ e; unfold Lt at this; omega, fun e => by have := own_lt h.sn _ e; unfold Lt at this; omega⟩
theorem OffG.low (h : GsR B W0 w dv kv sv data kinds seen) (hk : Blk w g t cs) (hg : g < B) : OffG w dv kv sv g t cs :=
  ⟨hk, fun e => by have := (World.ownsRow.lt h.dat g e).1; omega, fun e => by have := (World.ownsRow.lt h.kin g e).1; omega, fun e => by have := (World.ownsRow.lt h.sn g e).1; omega⟩
theorem GsR.chg (h : GsR B W0 w dv kv sv data kinds seen) {v : Value} (h3 : w.grownBy w' v.ownBlock) (hv : ∀ g, v.ownBlock = some g → B ≤ g) : Below W0.heap.size W0 w' :=
  h.bel.trans (below_of_grown h3 h.bel.size (fun g hg => Nat.le_trans h.base (hv g hg)))
theorem GsR.set_ (h : GsR B W0 w dv kv sv data kinds seen) {G k : Nat} {u : Value} (h1 : W0.heap.size ≤ G) (h2 : G < B) : GsR B W0 (w.setCell ⟨G, k, none⟩ u) dv kv sv data kinds seen := by
  have key : w.grownBy (w.setCell ⟨G, k, none⟩ u) (some G) := ⟨rfl, rfl, rfl, by simp, fun i _ hne => Below.heap_setCell w ⟨G, k, none⟩ u i (fun e => hne (by rw [e]))⟩
  have nx : ∀ {e size n : Nat} {v : Value} {c : List Value}, w.ownsRow B e size v n c → v.ownBlock = none ∨ v.ownBlock ≠ some G := fun hh => .inr fun e => by have := (World.ownsRow.lt hh G e).1; omega
  exact ⟨h.bel.trans (below_of_grown key h.bel.size (fun g hg => by injection hg with hg; omega)), World.ownsRow.kept h.dat key (nx h.dat), World.ownsRow.kept h.kin key (nx h.kin), World.ownsRow.kept h.sn key (nx h.sn), h.ne, by simpa using h.size, h.base⟩
end
end Go.Proofs.YtoalecalahkblaaGreatDoor

set_option linter.all false
namespace Go.Proofs.YtoalecalahkblaaGreatDoor
open Go.RowKit
theorem neg_any (k : Int) (w : World) : Calls Tryz.prog 122 #[.int .i64 k] w fun e w' => e = .returned (.bool (decide (k < 0))) ∧ w = w' := by
  go_enter Tryz.func122, Tryz.ntmps122
  go_wp2_with fail
  go_ret
  exact ⟨rfl, rfl⟩
theorem enters_neg : ∀ args w, (callFunc 122 args).run Tryz.prog w = .ok (.enter 122 args) w := enters_of Tryz.func122 (by kernel_rfl) rfl
theorem fields_filter (m : Mp) : ([m.cas, m.act, m.res, m.life, m.time].filter fun x => !decide (x < 0)) = fieldsB m := by
  unfold fieldsB
  congr 1
  funext k
  by_cases h : k < 0
  · rw [decide_eq_true h, decide_eq_false (by omega)]; rfl
  · rw [decide_eq_false h, decide_eq_true (by omega)]; rfl
theorem fieldsB_len (m : Mp) : (fieldsB m).length ≤ 5 := by
  unfold fieldsB
  exact Nat.le_trans (List.length_filter_le _ _) (Nat.le_refl _)
theorem delete_any (m : Mp) (hf : FitM m) (w : World) :
    Calls Tryz.prog 121 #[.slice (some ⟨w.heap.size, 0, none⟩) 5 5, .func (.func 122) #[] #[]] (w.alloc (.cells #[.int .i64 m.cas, .int .i64 m.act, .int .i64 m.res, .int .i64 m.life, .int .i64 m.time] 3))
      fun e w' => e = .returned (.slice (some ⟨w.heap.size, 0, none⟩) (fieldsB m).length 5) ∧ SlI (Lt w'.heap.size) w' (.slice (some ⟨w.heap.size, 0, none⟩) (fieldsB m).length 5) (fieldsB m) ∧ Below w.heap.size w w' := by
  have hB := Blk.new w 3 #[.int .i64 m.cas, .int .i64 m.act, .int .i64 m.res, .int .i64 m.life, .int .i64 m.time]
  have hb := bone w (.cells #[.int .i64 m.cas, .int .i64 m.act, .int .i64 m.res, .int .i64 m.life, .int .i64 m.time] 3)
  have hsz : w.heap.size < (w.alloc (.cells #[.int .i64 m.cas, .int .i64 m.act, .int .i64 m.res, .int .i64 m.life, .int .i64 m.time] 3)).heap.size := by simp
  obtain ⟨w1, hw1⟩ : ∃ w1, w.alloc (.cells #[.int .i64 m.cas, .int .i64 m.act, .int .i64 m.res, .int .i64 m.life, .int .i64 m.time] 3) = w1 := ⟨_, rfl⟩
  rw [hw1] at hB hb hsz ⊢
  clear hw1
  obtain ⟨g, hg⟩ : ∃ g, w.heap.size = g := ⟨_, rfl⟩
  have hgb : Below g w w1 := by rw [← hg]; exact hb
  rw [hg] at hB hsz ⊢
  have hpred : Go.Proofs.PredAt Tryz.prog 122 #[] (Value.int .i64) (fun k => decide (k < 0)) w1 := fun W x _ => (neg_any x W).mono fun e w' ⟨h1, h2⟩ => ⟨h1, 0, h2.symm⟩
  have hover : Go.Proofs.PredOver Tryz.prog 122 #[] (Value.int .i64) (fun k => decide (k < 0)) g 0 5 w1 := fun n os dk x _ => (neg_any x _).mono fun e w' ⟨h1, h2⟩ => ⟨h1, 0, h2.symm⟩
  have hH : Go.Sort.Holds (Value.int .i64) w1 g 0 #[m.cas, m.act, m.res, m.life, m.time] := by
    intro j hj
    refine ⟨?_, hB.frozen _⟩
    have hc := hB.cell (0 + j)
    rw [hc]
    match j, hj with
    | 0, _ => rfl
    | 1, _ => rfl
    | 2, _ => rfl
    | 3, _ => rfl
    | 4, _ => rfl
  have h := Tryz.slices_DeleteFunc (Value.int .i64) (fun _ => rfl) (fun k => decide (k < 0)) 122 #[] enters_neg 0 Tryz.zeroValue3 g 0 5 #[m.cas, m.act, m.res, m.life, m.time] w1 hpred hover hH (by simp) (by simp)
  have hfl : (#[m.cas, m.act, m.res, m.life, m.time].toList.filter fun x => !decide (x < 0)) = fieldsB m := fields_filter m
  rw [hfl] at h
  have hlen := fieldsB_len m
  have hfit : ∀ x ∈ fieldsB m, Fit x := fun x hx => by
    have hx := (List.mem_filter.1 hx).1
    simp only [List.mem_cons, List.not_mem_nil, or_false] at hx
    rcases hx with rfl | rfl | rfl | rfl | rfl
    · exact hf.cas
    · exact hf.act
    · exact hf.res
    · exact hf.life
    · exact hf.time
  refine Calls.mono h fun e w' ⟨he, q, hw⟩ => ?_
  generalize fieldsB m = fs at *
  obtain ⟨d, hd⟩ : ∃ d, (fs ++ List.replicate (#[m.cas, m.act, m.res, m.life, m.time].size - fs.length) 0).toArray = d := ⟨_, rfl⟩
  have hds : d.size = 5 := by
    rw [← hd]
    simp
    omega
  have hdg : ∀ i x, fs[i]? = some x → d[i]! = x := fun i x hx => by
    have hi := (List.getElem?_eq_some_iff.1 hx).1
    rw [getElem!_pos d i (by omega)]
    have : d[i]'(by omega) = (fs ++ List.replicate (#[m.cas, m.act, m.res, m.life, m.time].size - fs.length) 0)[i]'(by simp; omega) := by
      subst hd; simp
    rw [this, List.getElem_append_left hi]
    exact (List.getElem?_eq_some_iff.1 hx).2
  rw [hd] at hw
  have hsw : w'.heap.size = w1.heap.size := by rw [hw]; simp
  refine ⟨he, ⟨some ⟨g, 0, none⟩, 5, rfl, hlen, by unfold maxLen; omega, fun i x hx => ⟨g, 0, [.int .i64 x], rfl, by show g < _; omega, rfl, ⟨rfl, hfit x (List.mem_of_getElem? hx)⟩, fun j u hu => ?_⟩⟩, ?_⟩
  · match j, hu with
    | 0, hu =>
      injection hu with hu
      subst hu
      have hi := (List.getElem?_eq_some_iff.1 hx).1
      have hc := Go.Sort.cell?_putRow (Value.int .i64) (Go.Sort.ahead w1 q) g 0 #[m.cas, m.act, m.res, m.life, m.time] d hH (by rw [hds]; rfl) i (by omega)
      rw [hw, show 0 + i * 1 + 0 = 0 + i by omega, hc, hdg i x hx]
    | j + 1, hu => simp at hu
  · refine hgb.trans ?_
    rw [hw]
    refine ⟨rfl, rfl, rfl, by simp, fun j hj => ?_⟩
    have : g ≠ j := by omega
    simp [Go.Sort.putRow, Go.Sort.mapBlock, Go.Sort.ahead, Array.getElem?_modify, this]
set_option maxHeartbeats 2000000 in
theorem fields_any (u : Value) (m : Mp) (w : World) (h : IsMp (Lt w.heap.size) w u m) :
    Calls Tryz.prog 75 #[u] w fun e w' => ∃ v, e = .returned v ∧ SlI (Lt w'.heap.size) w' v (fieldsB m) ∧ Below w.heap.size w w' := by
  obtain ⟨dv, kv, rfl, hfm, hd, hk⟩ := h
  have HD := Lib.hid (delete_any m hfm)
  obtain ⟨Ad, cd, rfl, _, _, hd⟩ := hd.open_
  obtain ⟨Ak, ck, rfl, _, _, hk⟩ := hk.open_
  obtain ⟨z, hz⟩ : ∃ z, (m.sep.toNat : Int) = z := ⟨_, rfl⟩
  unfold mpV
  rw [hz]
  clear hfm hd hk hz
  have HB1 := Lib.hid (bone w (.cells #[.int .i64 m.cas, .int .i64 m.act, .int .i64 m.res, .int .i64 m.life, .int .i64 m.time, .slice Ad m.data.length cd, .slice Ak m.kinds.length ck, .int .u8 z] 33))
  have HM1 := Lib.hid (Blk.new w 33 #[.int .i64 m.cas, .int .i64 m.act, .int .i64 m.res, .int .i64 m.life, .int .i64 m.time, .slice Ad m.data.length cd, .slice Ak m.kinds.length ck, .int .u8 z])
  go_enter Tryz.func75, Tryz.ntmps75
  go_upto_region 1 with fail
  obtain ⟨w1, hw1⟩ : ∃ w1, w.alloc (.cells #[.int .i64 m.cas, .int .i64 m.act, .int .i64 m.res, .int .i64 m.life, .int .i64 m.time, .slice Ad m.data.length cd, .slice Ak m.kinds.length ck, .int .u8 z] 33) = w1 := ⟨_, rfl⟩
  rw [hw1] at HB1 HM1 ⊢
  clear hw1
  obtain ⟨c0, c1, c2, c3, c4, c5, c6, c7⟩ := HM1.out.c8m
  have HDW := Lib.hid (HD.out w1)
  clear HD
  go_wp2_with fail
  (with_reducible refine HDW.out.mono ?_)
  rintro _ w2 ⟨rfl, hs, hb⟩
  have HS := Lib.hid hs
  have HB2 := Lib.hid (bthen HB1.out hb)
  clear hs hb
  go_wp2_with fail
  go_ret
  exact ⟨_, rfl, HS.out, HB2.out⟩
end Go.Proofs.YtoalecalahkblaaGreatDoor

namespace Go.Proofs.YtoalecalahkblaaGreatDoor
def unlisted (listed : Array Bool) : Nat := (listed.toList.filter (fun b => !b)).length
theorem unlisted_list (l : List Bool) : ∀ i, l[i]? = some false → ((l.set i true).filter (fun b => !b)).length + 1 = (l.filter (fun b => !b)).length := by
  induction l with
  | nil => intro i h; simp at h
  | cons b l ih =>
    intro i h
    cases i with
    | zero => simp at h; subst h; simp
    | succ i =>
      have := ih i (by simpa using h)
      cases b
      · simp only [List.set_cons_succ, List.filter_cons, Bool.not_false, if_true, List.length_cons]; omega
      · simp only [List.set_cons_succ, List.filter_cons, Bool.not_true, Bool.false_eq_true, if_false]; omega
theorem unlisted_set {listed : Array Bool} {i : Nat} (h : listed.getD i true = false) : unlisted (listed.setIfInBounds i true) + 1 = unlisted listed := by
  have hi : i < listed.size := by
    rcases Nat.lt_or_ge i listed.size with h' | h'
    · exact h'
    · simp [Array.getElem?_eq_none h'] at h
  have hb : listed[i] = false := by simpa [hi] using h
  unfold unlisted
  rw [Array.toList_setIfInBounds]
  exact unlisted_list _ i (by simp [hi, hb])
theorem wpAny_inv {P : Program} {ops : Array Oper} {md : Region.Mode} {Q : Exit → Act → World → Prop} (J : Array Bool → Act → World → Prop)
    (hstep : ∀ listed a w i, J listed a w → i ∈ Region.ready md ops listed → wpOp P ops Q i (J (listed.setIfInBounds i true)) a w)
    (hend : ∀ listed a w, J listed a w → Region.ready md ops listed = [] → Q .normal a w) :
    ∀ (fuel : Nat) (listed : Array Bool) (a : Act) (w : World), unlisted listed ≤ fuel → J listed a w → wpAny P md ops Q fuel listed a w := by
  intro fuel
  induction fuel with
  | zero =>
    intro listed a w hf hJ
    have hr : Region.ready md ops listed = [] := by
      cases h : Region.ready md ops listed with
      | nil => rfl
      | cons i l =>
        have hi : i ∈ Region.ready md ops listed := by rw [h]; simp
        have := unlisted_set (mem_ready.1 hi).1
        omega
    exact ⟨hr, hend _ _ _ hJ hr⟩
  | succ fuel ih =>
    intro listed a w hf hJ
    refine ⟨fun hr => hend _ _ _ hJ hr, fun i hi => ?_⟩
    exact wpOp_mono (fun a' w' h' => ih _ a' w' (by have := unlisted_set (mem_ready.1 hi).1; omega) h') (hstep listed a w i hJ hi)
theorem wp_region_inv {P : Program} {ops : Array Oper} {id : Nat} {Q : Exit → Act → World → Prop} {a : Act} {w : World} (hm : P.follows .mixedOrders = true) (J : Array Bool → Act → World → Prop)
    (h0 : J (Array.replicate ops.size false) a w.drew)
    (hstep : ∀ listed a w i, J listed a w → i ∈ Region.ready .any ops listed → wpOp P ops Q i (J (listed.setIfInBounds i true)) a w)
    (hend : ∀ listed a w, J listed a w → Region.ready .any ops listed = [] → Q .normal a w) : (Code.region id ops true).wp P Q a w := by
  refine wp_region_any hm (wpAny_inv J hstep hend _ _ _ _ ?_ h0)
  unfold unlisted
  exact Nat.le_trans (List.length_filter_le _ _) (by simp)
def Act.slot (a : Act) (s : Nat) : Value := a.tmps.getD s undef
def upd (σ : Nat → Value) (d : Option Tmp) (v : Value) : Nat → Value := match d with | some d => fun s => if s = d then v else σ s | none => σ
theorem slot_put {a : Act} {d : Option Tmp} {v : Value} (h : ∀ k, d = some k → k < a.tmps.size) : Act.slot (a.put d v) = upd (Act.slot a) d v := by
  cases d with
  | none => rfl
  | some d =>
    funext s
    have hd := h d rfl
    simp only [Act.slot, Act.put, upd, Array.getD_eq_getD_getElem?, Array.getElem?_setIfInBounds]
    by_cases hs : s = d
    · subst hs; simp [hd]
    · rw [if_neg (fun e => hs e.symm), if_neg hs]
theorem size_put (a : Act) (d : Option Tmp) (v : Value) : (a.put d v).tmps.size = a.tmps.size := by cases d <;> simp [Act.put]
theorem defers_put (a : Act) (d : Option Tmp) (v : Value) : (a.put d v).defers = a.defers := by cases d <;> rfl
structure Kin (l : List Oper) (a0 a : Act) : Prop where
  size : a.tmps.size = a0.tmps.size
  defers : a.defers = a0.defers
  slots : ∀ s, (∀ o ∈ l, o.dst ≠ some s) → Act.slot a s = Act.slot a0 s
theorem Kin.refl (l : List Oper) (a : Act) : Kin l a a := ⟨rfl, rfl, fun _ _ => rfl⟩
theorem Kin.put {l : List Oper} {a0 a : Act} (h : Kin l a0 a) (hd : ∀ o ∈ l, ∀ k, o.dst = some k → k < a0.tmps.size) {o : Oper} (ho : o ∈ l) (v : Value) : Kin l a0 (a.put o.dst v) ∧ Act.slot (a.put o.dst v) = upd (Act.slot a) o.dst v := by
  have e := slot_put (a := a) (d := o.dst) (v := v) (fun k hk => by rw [h.size]; exact hd o ho k hk)
  refine ⟨⟨(size_put _ _ _).trans h.size, (defers_put _ _ _).trans h.defers, fun s hs => ?_⟩, e⟩
  rw [e, ← h.slots s hs]
  have := hs o ho
  cases hk : o.dst with
  | none => rfl
  | some d =>
    simp only [upd]
    rw [if_neg]
    intro e'
    subst e'
    exact this hk
def Up (listed : Array Bool) (j : Nat) : Prop := listed.getD j false = true
structure Shut (l : List Oper) (listed : Array Bool) : Prop where
  size : listed.size = l.length
  closed : ∀ j oj, l[j]? = some oj → Up listed j → ∀ e ∈ oj.after, Region.binds .any e = true → Up listed e.on
theorem Shut.start (l : List Oper) : Shut l (Array.replicate l.length false) :=
  ⟨by simp, fun j oj _ hl => by unfold Up at hl; rw [getD_replicate_false] at hl; cases hl⟩
theorem Shut.up {l : List Oper} {listed : Array Bool} {j i : Nat} (h : Shut l listed) (hj : Up listed j) (hw : Region.waitsFor .any l.toArray j i = true) : Up listed i := by
  obtain ⟨oj, hoj, e, he, hb, rfl⟩ := Region.waitsFor_spec hw
  exact h.closed j oj (by simpa using hoj) hj e he hb
theorem ready_up {l : List Oper} {listed : Array Bool} {i j : Nat} (hi : i ∈ Region.ready .any l.toArray listed) (hw : Region.waitsFor .any l.toArray i j = true) : Up listed j := by
  obtain ⟨_, o, ho, hall⟩ := mem_ready.1 hi
  obtain ⟨oj, hoj, e, he, hb, rfl⟩ := Region.waitsFor_spec hw
  have : oj = o := Option.some.inj (hoj.symm.trans ho)
  subst this
  exact hall e he hb
theorem ready_not {l : List Oper} {listed : Array Bool} {i : Nat} (hi : i ∈ Region.ready .any l.toArray listed) : ¬ Up listed i := by
  unfold Up
  rw [getD_both (mem_ready.1 hi).1]
  simp
theorem Shut.set {l : List Oper} {listed : Array Bool} {i : Nat} (h : Shut l listed) (hi : i ∈ Region.ready .any l.toArray listed) : Shut l (listed.setIfInBounds i true) := by
  obtain ⟨_, oi, hoi, hall⟩ := mem_ready.1 hi
  refine ⟨by simp [h.size], fun j oj hj hl e he hb => ?_⟩
  unfold Up at hl ⊢
  by_cases hij : i = j
  · subst hij
    have : oj = oi := Option.some.inj ((show l.toArray[i]? = some oj by simpa using hj).symm.trans hoi)
    subst this
    exact getD_set_true (hall e he hb)
  · rw [getD_set_ne false hij] at hl
    exact getD_set_true (h.closed j oj hj hl e he hb)
theorem up_set {listed : Array Bool} {i j : Nat} (h : Up (listed.setIfInBounds i true) j) (hij : i ≠ j) : Up listed j := by
  unfold Up at *
  rwa [getD_set_ne false hij] at h
def Steps (P : Program) (l : List Oper) (Q : Exit → Act → World → Prop) (a0 : Act) (K : Array Bool → (Nat → Value) → World → Prop) : Nat → List Oper → Prop
  | _, [] => True
  | i, o :: rest => (∀ listed (a : Act) w, Shut l listed → i ∈ Region.ready .any l.toArray listed → Kin l a0 a → K listed (Act.slot a) w →
      o.wp P a w (fun a' w' => ∃ v, a' = a.put o.dst v ∧ K (listed.setIfInBounds i true) (upd (Act.slot a) o.dst v) w') Q) ∧ Steps P l Q a0 K (i + 1) rest
theorem Steps.at_ {P : Program} {l : List Oper} {Q : Exit → Act → World → Prop} {a0 : Act} {K : Array Bool → (Nat → Value) → World → Prop} : ∀ (m : List Oper) (k i : Nat) (o : Oper), Steps P l Q a0 K k m → m[i]? = some o →
    ∀ listed (a : Act) w, Shut l listed → (k + i) ∈ Region.ready .any l.toArray listed → Kin l a0 a → K listed (Act.slot a) w →
      o.wp P a w (fun a' w' => ∃ v, a' = a.put o.dst v ∧ K (listed.setIfInBounds (k + i) true) (upd (Act.slot a) o.dst v) w') Q := by
  intro m
  induction m with
  | nil => intro k i o _ h; simp at h
  | cons x m ih =>
    intro k i o hs h
    cases i with
    | zero => injection h with h; subst h; exact hs.1
    | succ i =>
      have := ih (k + 1) i o hs.2 (by simpa using h)
      rwa [show k + 1 + i = k + (i + 1) from by omega] at this
def dstsB (l : List Oper) (n : Nat) : Bool := l.all fun o => o.guard.isNone && match o.dst with | some k => decide (k < n) | none => true
theorem wp_region_slots {P : Program} {l : List Oper} {id : Nat} {Q : Exit → Act → World → Prop} {a0 : Act} {w : World} (hm : P.follows .mixedOrders = true)
    (hB : dstsB l a0.tmps.size = true) (K : Array Bool → (Nat → Value) → World → Prop)
    (h0 : K (Array.replicate l.length false) (Act.slot a0) w.drew) (hstep : Steps P l Q a0 K 0 l)
    (hend : ∀ listed (a : Act) w, (∀ i, i < l.length → Up listed i) → Kin l a0 a → K listed (Act.slot a) w → Q .normal a w) (hall : ∀ listed, Shut l listed → Region.ready .any l.toArray listed = [] → ∀ i, i < l.length → Up listed i) : (Code.region id l.toArray true).wp P Q a0 w := by
  unfold dstsB at hB
  rw [List.all_eq_true] at hB
  refine wp_region_inv hm (fun listed a w => Shut l listed ∧ Kin l a0 a ∧ K listed (Act.slot a) w) ⟨by simpa using Shut.start l, Kin.refl _ _, by simpa using h0⟩ ?_ (fun listed a w h hr => hend listed a w (hall listed h.1 hr) h.2.1 h.2.2)
  rintro listed a w i ⟨hsh, hk, hK⟩ hi
  obtain ⟨_, o, ho, _⟩ := mem_ready.1 hi
  have ho' : l[i]? = some o := by simpa using ho
  have hmem : o ∈ l := List.mem_of_getElem? ho'
  have hb := hB o hmem
  rw [Bool.and_eq_true] at hb
  unfold wpOp
  rw [ho]
  have hw : Region.wanted o (yielded l.toArray a.tmps) = true := by simp [Region.wanted, Option.isNone_iff_eq_none.1 hb.1]
  simp only [hw, if_true]
  left
  refine Oper.wp_mono ?_ (by have := hstep.at_ l 0 i o ho' listed a w hsh (by rwa [Nat.zero_add]) hk hK; rwa [Nat.zero_add] at this)
  rintro a' w' ⟨v, rfl, h⟩
  obtain ⟨k1, k2⟩ := hk.put (fun o' ho' k hk' => by
    have := hB o' ho'
    rw [Bool.and_eq_true, hk'] at this
    simpa using this.2) hmem v
  exact ⟨hsh.set hi, k1, by rw [k2]; exact h⟩
end Go.Proofs.YtoalecalahkblaaGreatDoor

namespace Go.Proofs.YtoalecalahkblaaGreatDoor
def TailPost (P : Program) (l : List Oper) (n : Nat) (Q : Exit → Act → World → Prop) : Exit → Act → World → Prop
  | .normal, a, w => wpList P l.toArray Q (l.drop n) a w
  | e, a, w => Q e a w
def earlyB (l : List Oper) : Bool := (List.range l.length).all fun j => match l[j]? with
  | some o => o.guard.isNone && o.after.all fun e => !Region.binds .any e || decide (e.on < j)
  | none => true
theorem early_spec {l : List Oper} (h : earlyB l = true) {j : Nat} {o : Oper} (hj : l[j]? = some o) : o.guard = none ∧ ∀ e ∈ o.after, Region.binds .any e = true → e.on < j := by
  have hlt : j < l.length := by
    rcases Nat.lt_or_ge j l.length with h' | h'
    · exact h'
    · rw [List.getElem?_eq_none h'] at hj; cases hj
  have h1 := List.all_eq_true.1 h j (List.mem_range.2 hlt)
  rw [hj] at h1
  simp only [Bool.and_eq_true, Array.all_eq_true_iff_forall_mem, Bool.or_eq_true, Bool.not_eq_true', decide_eq_true_eq] at h1
  refine ⟨Option.isNone_iff_eq_none.1 h1.1, fun e he hb => (h1.2 e he).resolve_left (by rw [hb]; simp)⟩
def tailB (l : List Oper) (n : Nat) : Bool := earlyB l && decide (n < l.length) && Region.sinkB .any l.toArray n && Region.chainB .any l.toArray n && Region.seqB .any l.toArray (l.length - n) n (Array.replicate n true ++ Array.replicate (l.length - n) false)
section
variable {P : Program} {l : List Oper} {n : Nat} {Q : Exit → Act → World → Prop}
theorem first_ready (hE : earlyB l = true) {L : Array Bool} (hs : L.size = l.length) : ∀ (i : Nat), i < L.size → L.getD i true = false → ∃ j, j ≤ i ∧ j ∈ Region.ready .any l.toArray L := by
  intro i
  induction i using Nat.strongRecOn with
  | _ i ih =>
    intro hi hun
    have hi' : i < l.length := by omega
    by_cases hr : i ∈ Region.ready .any l.toArray L
    · exact ⟨i, Nat.le_refl _, hr⟩
    · have ho : l[i]? = some l[i] := List.getElem?_eq_getElem hi'
      have hsp := early_spec hE ho
      have : ∃ e ∈ l[i].after, Region.binds .any e = true ∧ L.getD e.on false = false := by
        apply Classical.byContradiction
        intro hno
        refine hr (mem_ready.2 ⟨hun, l[i], by simp, fun e he hb => ?_⟩)
        cases h : L.getD e.on false with
        | true => rfl
        | false => exact absurd ⟨e, he, hb, h⟩ hno
      obtain ⟨e, he, hb, hf⟩ := this
      have hlt := hsp.2 e he hb
      obtain ⟨j, hj, hr'⟩ := ih e.on hlt (by omega) (getD_in (by omega) hf)
      exact ⟨j, by omega, hr'⟩
end
end Go.Proofs.YtoalecalahkblaaGreatDoor
