/- Texts of this seat, merged. -/
import Derived.Laws.StructEq
import Derived.BigQuiet
import Derived.Deep.QuietTactic
import Derived.Deep.CutRange
import Derived.ProofKit
import Derived.Deep.Slices
import Derived.Deep.Fields
import Derived.Deep.Strs
import Derived.ChangeSame
import Derived.Lib.SmallJoins
import Derived.LaidMore
import Derived.OpenShut
import Derived.Stop.Joined
import Derived.Test.YtoalecalahkblaaGreatDoorRows
import Derived.Test.YtoalecalahkblaaGreatDoorTie
import Derived.Test.YtoalecalahkblaaGreatDoorCards
import Derived.SevenTiedAt
import Derived.LaidLaws
import Derived.Lib.LaidTab
import Derived.Lay
import Derived.MakeChecks
import Derived.Shelf.Vars
import Derived.Test.YtoalecalahkblaaGreatDoorIy01
import Derived.Test.YtoalecalahkblaaGreatDoorIy02
import Derived.Test.YtoalecalahkblaaGreatDoorIy03
import Derived.Test.YtoalecalahkblaaGreatDoorIy04
import Derived.Test.YtoalecalahkblaaGreatDoorIy05
import Derived.Test.YtoalecalahkblaaGreatDoorIy06
import Derived.Test.YtoalecalahkblaaGreatDoorIy07
import Derived.Test.YtoalecalahkblaaGreatDoorIy09
import Derived.Test.YtoalecalahkblaaGreatDoorIy11
import Derived.Test.YtoalecalahkblaaGreatDoorIy12
import Derived.Test.YtoalecalahkblaaGreatDoorIy13
import Derived.Test.YtoalecalahkblaaGreatDoorIy16
set_option linter.all false
set_option linter.all false
namespace Go.Proofs.YtoalecalahkblaaGreatDoor
open Go.RowKit
theorem eqF_same {P : Program} {d t o : Nat} {xs : Array Value} {f : Go.Field} {l : List Go.Field} {v : Value} {W : World} (hf : (f.name == "_", f.type, f.offset) = (false, t, o)) (hp : (Go.part t xs o).run P W = .ok v W) (he : (Op.equalIn d t v v).run P W = .ok true W) :
    (Op.eqFields d xs xs (f :: l)).run P W = (Op.eqFields d xs xs l).run P W := by
  simp only [Prod.mk.injEq, beq_eq_false_iff_ne] at hf
  obtain ⟨h1, h2, h3⟩ := hf
  simp only [Op.eqFields, h1, h2, h3, ne_eq, not_false_eq_true, if_true]
  simp only [Sem.run_bind, hp, he, Result.andThen_ok]
  simp
theorem part_int {P : Program} {t o : Nat} {xs : Array Value} {v : Value} {W : World} (ht : P.underlying t = some (.int .i64)) (hx : xs[o]? = some v) : (Go.part t xs o).run P W = .ok v W := by
  simp only [Sem.run_bind, Go.part, isAgg, run_underlying ht, Result.andThen_ok, Sem.run_pure, Bool.false_eq_true, if_false, hx]
theorem part_str {P : Program} {t o : Nat} {xs : Array Value} {v : Value} {W : World} (ht : P.underlying t = some .string) (hx : xs[o]? = some v) : (Go.part t xs o).run P W = .ok v W := by
  simp only [Sem.run_bind, Go.part, isAgg, run_underlying ht, Result.andThen_ok, Sem.run_pure, Bool.false_eq_true, if_false, hx]
theorem fieldsFld : ((Program.fieldsOf Tryz.prog 123).toList.map fun f => (f.name == "_", f.type, f.offset)) = [(false, 9, 0), (false, 121, 1)] := by kernel_rfl
theorem fieldsVal : ((Program.fieldsOf Tryz.prog 121).toList.map fun f => (f.name == "_", f.type, f.offset)) = [(false, 3, 0), (false, 3, 1), (false, 9, 2)] := by kernel_rfl
theorem valInfoSize : (Tryz.prog.info? 121).map (fun i => i.size) = some 3 := by kernel_rfl
theorem list2 {α β : Type} {g : α → β} {L : List α} {a b : β} (h : L.map g = [a, b]) : ∃ x y, L = [x, y] ∧ g x = a ∧ g y = b := by
  match L, h with
  | [x, y], h => injection h with h1 h; injection h with h2 _; exact ⟨x, y, rfl, h1, h2⟩
theorem list3 {α β : Type} {g : α → β} {L : List α} {a b c : β} (h : L.map g = [a, b, c]) : ∃ x y z, L = [x, y, z] ∧ g x = a ∧ g y = b ∧ g z = c := by
  match L, h with
  | [x, y, z], h => injection h with h1 h; injection h with h2 h; injection h with h3 _; exact ⟨x, y, z, rfl, h1, h2, h3⟩
theorem valEq (a b : Int) (s : ByteArray) (W : World) (d : Nat) : (Op.equalIn (d + 1 + 1) 121 (.agg #[.int .i64 a, .int .i64 b, .string s]) (.agg #[.int .i64 a, .int .i64 b, .string s])).run Tryz.prog W = .ok true W := by
  rw [run_equalIn_agg (ht := by kernel_rfl) (hp := by kernel_rfl)]
  obtain ⟨x, y, z, hl, h1, h2, h3⟩ := list3 fieldsVal
  rw [hl]
  have hi : Program.underlying Tryz.prog 3 = some (.int .i64) := by kernel_rfl
  have hs : Program.underlying Tryz.prog 9 = some .string := by kernel_rfl
  rw [eqF_same (v := .int .i64 a) h1 (part_int hi rfl) (by rw [run_equalIn_int (h := hi)]; simp), eqF_same (v := .int .i64 b) h2 (part_int hi rfl) (by rw [run_equalIn_int (h := hi)]; simp), eqF_same (v := .string s) h3 (part_str hs rfl) (by rw [run_equalIn_string (h := hs)]; simp)]
  simp [Op.eqFields]
theorem part_val (nm : ByteArray) (a b : Int) (s : ByteArray) (W : World) : (Go.part 121 #[.string nm, .int .i64 a, .int .i64 b, .string s] 1).run Tryz.prog W = .ok (.agg #[.int .i64 a, .int .i64 b, .string s]) W := by
  obtain ⟨i, hi, hs⟩ := Option.map_eq_some_iff.1 valInfoSize
  have ht : Program.underlying Tryz.prog 121 = some (.struct (Program.fieldsOf Tryz.prog 121)) := by kernel_rfl
  simp [Go.part, isAgg, run_underlying ht, sizeOf, typeInfo, hi, hs]
theorem fldNeq (f : Fld) (W : World) : (binOp .neq 123 (.agg #[.string f.nm, .int .i64 f.v.kind, .int .i64 f.v.n, .string f.v.s]) (.agg #[.string f.nm, .int .i64 f.v.kind, .int .i64 f.v.n, .string f.v.s])).run Tryz.prog W = .ok (.bool false) W := by
  rw [run_neq_struct, show (10000 : Nat) = 9996 + 1 + 1 + 1 + 1 from rfl, run_equalIn_agg (ht := by kernel_rfl) (hp := by kernel_rfl)]
  obtain ⟨x, y, hl, h1, h2⟩ := list2 fieldsFld
  rw [hl]
  have hs : Program.underlying Tryz.prog 9 = some .string := by kernel_rfl
  rw [eqF_same (v := .string f.nm) h1 (part_str hs rfl) (by rw [run_equalIn_string (h := hs)]; simp), eqF_same h2 (part_val _ _ _ _ W) (valEq _ _ _ W _)]
  simp [Op.eqFields]
set_option maxHeartbeats 1000000 in
set_option maxRecDepth 100000 in
theorem evSame_ref (e : Ev) (d1 d2 : Value) (w : World) (h1 : SlFl (Lt w.heap.size) w d1 e.data) (h2 : SlFl (Lt w.heap.size) w d2 e.data) :
    Calls Tryz.prog 66 #[.agg #[.string e.cas, .string e.act, .string e.res, .int .i64 e.life, .int .i64 e.time, d1], .agg #[.string e.cas, .string e.act, .string e.res, .int .i64 e.life, .int .i64 e.time, d2]] w fun x w' => x = .returned (.bool true) ∧ Below w.heap.size w w' := by
  obtain ⟨A, c, rfl, _, _, h1⟩ := h1.open_
  obtain ⟨A2, c2, rfl, _, _, h2⟩ := h2.open_
  have HA := Lib.hid h1
  have HB := Lib.hid h2
  have hb1 := bone w (.cells #[.string e.cas, .string e.act, .string e.res, .int .i64 e.life, .int .i64 e.time, .slice A e.data.length c] 69)
  have hb12 := bbox hb1 (.cells #[.string e.cas, .string e.act, .string e.res, .int .i64 e.life, .int .i64 e.time, .slice A2 e.data.length c2] 69)
  have HB12 := Lib.hid hb12
  clear h1 h2
  go_enter Tryz.func66, Tryz.ntmps66
  go_wp2_with fail
  go_loopw [5] (fun iv wr => ∃ k q : Nat, iv = .int .i64 (k : Int) ∧ k ≤ e.data.length ∧ wr = ((w.alloc (.cells #[.string e.cas, .string e.act, .string e.res, .int .i64 e.life, .int .i64 e.time, .slice A e.data.length c] 69)).alloc (.cells #[.string e.cas, .string e.act, .string e.res, .int .i64 e.life, .int .i64 e.time, .slice A2 e.data.length c2] 69)).drewN q) (fun iv _ => e.data.length - (intOf iv).toNat)
  case atStart => exact ⟨0, 0, rfl, Nat.zero_le _, rfl⟩
  case round =>
    obtain ⟨k, q, rfl, hk, hwr⟩ := hrel
    by_cases hlt : k < e.data.length
    · obtain ⟨b, o, f, rfl, hDb, hx, _, f0, f1, f2, f3⟩ := SlFl.at_ HA.out hlt
      obtain ⟨b', o', f', rfl, hDb', hx', _, g0, g1, g2, g3⟩ := SlFl.at_ HB.out hlt
      rw [hx] at hx'
      injection hx' with hx'
      subst hx'
      have p0 := (hb12.cell (p := ⟨b, o + k * 4, none⟩) hDb).trans f0
      have p1 := (hb12.cell (p := ⟨b, o + k * 4 + 1, none⟩) hDb).trans f1
      have p2 := (hb12.cell (p := ⟨b, o + k * 4 + 2, none⟩) hDb).trans f2
      have p3 := (hb12.cell (p := ⟨b, o + k * 4 + 3, none⟩) hDb).trans f3
      have q0 := (hb12.cell (p := ⟨b', o' + k * 4, none⟩) hDb').trans g0
      have q1 := (hb12.cell (p := ⟨b', o' + k * 4 + 1, none⟩) hDb').trans g1
      have q2 := (hb12.cell (p := ⟨b', o' + k * 4 + 2, none⟩) hDb').trans g2
      have q3 := (hb12.cell (p := ⟨b', o' + k * 4 + 3, none⟩) hDb').trans g3
      have hne := fldNeq f
      have i1 : (0 : Int) ≤ (k : Int) := by omega
      have i2 : (k : Int) < (e.data.length : Int) := by omega
      clear hx f0 f1 f2 f3 g0 g1 g2 g3
      go_wp2_with fail
      go_quiet (fail)
      go_wp2_with fail
      go_roundw
      case rel => exact ⟨k + 1, q + nq, by go_num, by omega, by first | rfl | (rw [hwr]; simp) | simp⟩
      case measure => simp [intOf]; omega
    · obtain rfl : k = e.data.length := by omega
      have z1 : ¬ (e.data.length : Int) < (e.data.length : Int) := by omega
      go_wp2_with fail
      go_ret
      exact ⟨rfl, below_drewN HB12.out q⟩
end Go.Proofs.YtoalecalahkblaaGreatDoor

set_option linter.all false
namespace Go.Proofs.YtoalecalahkblaaGreatDoor
open Go.RowKit
set_option maxHeartbeats 1000000 in
set_option maxRecDepth 100000 in
theorem logSame_ref (l : List Ev) (u v : Value) (w : World) (hu : IsLog (Lt w.heap.size) w u l) (hv : IsLog (Lt w.heap.size) w v l) :
    Calls Tryz.prog 20 #[u, v] w fun x w' => x = .returned (.bool true) ∧ Below w.heap.size w w' := by
  obtain ⟨_, rfl, hu⟩ := hu
  obtain ⟨_, rfl, hv⟩ := hv
  obtain ⟨A, c, rfl, _, _, hu⟩ := hu.open_
  obtain ⟨A2, c2, rfl, _, _, hv⟩ := hv.open_
  have HU := Lib.hid hu
  have HV := Lib.hid hv
  have hb1 := bone w (.cells #[.slice A l.length c] 38)
  have hb12 := bbox hb1 (.cells #[.slice A2 l.length c2] 38)
  have hB1 := (Blk.new w 38 #[.slice A l.length c]).now (bone _ (.cells #[.slice A2 l.length c2] 38))
  have hB2 := Blk.new (w.alloc (.cells #[.slice A l.length c] 38)) 38 #[.slice A2 l.length c2]
  rw [World.size_alloc] at hB2
  clear hu hv hb1
  go_enter Tryz.func20, Tryz.ntmps20
  go_wp2_with fail
  obtain ⟨w2, hw2⟩ : ∃ w2, (w.alloc (.cells #[.slice A l.length c] 38)).alloc (.cells #[.slice A2 l.length c2] 38) = w2 := ⟨_, rfl⟩
  rw [hw2] at hb12 hB1 hB2 ⊢
  clear hw2
  have HB12 := Lib.hid hb12
  have HB1 := Lib.hid hB1
  have HB2 := Lib.hid hB2
  clear hb12 hB1 hB2
  go_loopw [5] (fun iv wr => ∃ k : Nat, iv = .int .i64 (k : Int) ∧ k ≤ l.length ∧ Hid (Below w2.heap.size w2 wr)) (fun iv _ => l.length - (intOf iv).toNat)
  case atStart => exact ⟨0, rfl, Nat.zero_le _, Lib.hid (Below.refl _ _)⟩
  case round =>
    obtain ⟨k, rfl, hk, HR⟩ := hrel
    have hw12 := HB12.out.size
    have hB1r := HB1.out.now HR.out
    have hB2r := HB2.out.now HR.out
    have r1 := hB1r.c1
    have r2 := hB2r.c1
    by_cases hlt : k < l.length
    · have HBR := Lib.hid (HB12.out.trans (HR.out.mono hw12))
      obtain ⟨b, o, e, dv, rfl, hD, hx, _, hdv, f0, f1, f2, f3, f4, f5⟩ := SlEv.at_ HU.out hlt
      obtain ⟨b', o', e', dv', rfl, hD', hx', _, hdv', g0, g1, g2, g3, g4, g5⟩ := SlEv.at_ HV.out hlt
      rw [hx] at hx'
      injection hx' with hx'
      subst hx'
      have hE := fun W => HBR.out.trans ((ext_below wr W).mono HBR.out.size)
      have hES := fun W => (hE W).size
      have p0 := fun W => ((hE W).cell (p := ⟨b, o + k * 6, none⟩) hD).trans f0
      have p1 := fun W => ((hE W).cell (p := ⟨b, o + k * 6 + 1, none⟩) hD).trans f1
      have p2 := fun W => ((hE W).cell (p := ⟨b, o + k * 6 + 2, none⟩) hD).trans f2
      have p3 := fun W => ((hE W).cell (p := ⟨b, o + k * 6 + 3, none⟩) hD).trans f3
      have p4 := fun W => ((hE W).cell (p := ⟨b, o + k * 6 + 4, none⟩) hD).trans f4
      have p5 := fun W => ((hE W).cell (p := ⟨b, o + k * 6 + 5, none⟩) hD).trans f5
      have q0 := fun W => ((hE W).cell (p := ⟨b', o' + k * 6, none⟩) hD').trans g0
      have q1 := fun W => ((hE W).cell (p := ⟨b', o' + k * 6 + 1, none⟩) hD').trans g1
      have q2 := fun W => ((hE W).cell (p := ⟨b', o' + k * 6 + 2, none⟩) hD').trans g2
      have q3 := fun W => ((hE W).cell (p := ⟨b', o' + k * 6 + 3, none⟩) hD').trans g3
      have q4 := fun W => ((hE W).cell (p := ⟨b', o' + k * 6 + 4, none⟩) hD').trans g4
      have q5 := fun W => ((hE W).cell (p := ⟨b', o' + k * 6 + 5, none⟩) hD').trans g5
      have t1 : ∀ W, (ext wr W).cell? ⟨w.heap.size, 0, none⟩ = some (.slice (some ⟨b, o, none⟩) l.length c) := fun W => (hB1r.now (ext_below wr W)).c1
      have t2 : ∀ W, (ext wr W).cell? ⟨w.heap.size + 1, 0, none⟩ = some (.slice (some ⟨b', o', none⟩) l.length c2) := fun W => (hB2r.now (ext_below wr W)).c1
      have HS : Hid (∀ W, Calls Tryz.prog 66 #[.agg #[.string e.cas, .string e.act, .string e.res, .int .i64 e.life, .int .i64 e.time, dv], .agg #[.string e.cas, .string e.act, .string e.res, .int .i64 e.life, .int .i64 e.time, dv']] (ext wr W) fun x w' => x = .returned (.bool true) ∧ Below (ext wr W).heap.size (ext wr W) w') :=
        Lib.hid fun W => evSame_ref e dv dv' (ext wr W) (SlFl.below hdv (hE W) (hES W)) (SlFl.below hdv' (hE W) (hES W))
      have i1 : (0 : Int) ≤ (k : Int) := by omega
      have i2 : (k : Int) < (l.length : Int) := by omega
      have HR' := HR
      clear hx f0 f1 f2 f3 f4 f5 g0 g1 g2 g3 g4 g5 hdv hdv' hE hES hB1r hB2r
      go_upto_region 6 with fail
      refine wp_region_growV (by kernel_rfl) (by kernel_rfl) ?_
      repeat (refine veil_step (fun K hK => ?_); go_simp; first | (refine hK _ ?_; clear hK K) | (apply Exists.intro; refine ⟨fun Wq => ?_, hK _ ?_⟩; ((go_at_call 66; exact grow_of (HS.out Wq))); clear hK K))
      refine veil_nil ?_
      intro _ hw'
      obtain ⟨W, rfl⟩ := hw'
      go_wp2_with fail
      go_roundw
      case rel => exact ⟨k + 1, by go_num, by omega, Lib.hid (HR'.out.trans ((ext_below wr W).mono HR'.out.size))⟩
      case measure => simp [intOf]; omega
    · obtain rfl : k = l.length := by omega
      have z1 : ¬ (l.length : Int) < (l.length : Int) := by omega
      have HF := Lib.hid (HB12.out.trans (HR.out.mono hw12))
      clear hB1r hB2r
      go_wp2_with fail
      go_ret
      exact ⟨rfl, HF.out⟩
end Go.Proofs.YtoalecalahkblaaGreatDoor

set_option linter.all false
namespace Go.Proofs.YtoalecalahkblaaGreatDoor
open Go.RowKit
def awText : ByteArray := ⟨#[119, 104, 111, 44, 119, 104, 97, 116, 44, 119, 104, 101, 110, 10, 99, 49, 44, 97, 44, 53, 10, 99, 49, 44, 34, 98, 34, 44, 51, 10]⟩
def awHead : List Bt := [[119, 104, 111], [119, 104, 97, 116], [119, 104, 101, 110]]
def awRows : List (List Bt) := [[[99, 49], [97], [53]], [[99, 49], [98], [51]]]
def awEvs : List Ev := [⟨bsOf [99, 49], bsOf [97], ⟨#[]⟩, 5, 5, []⟩, ⟨bsOf [99, 49], bsOf [98], ⟨#[]⟩, 5, 3, []⟩]
theorem aw_cells : cellsE 44 awText.data.toList = (awHead :: awRows, (0, 0), 0) := by rfl
theorem aw_sorted : sortS tlt awEvs = [⟨bsOf [99, 49], bsOf [98], ⟨#[]⟩, 5, 3, []⟩, ⟨bsOf [99, 49], bsOf [97], ⟨#[]⟩, 5, 5, []⟩] := by simp [sortS, awEvs, insL, mg, tlt]
theorem aw_nat5 : natE [53] = (5, 0) := by
  unfold natE
  rw [if_neg (by decide)]
  have h : Lib.atoiAll [53] = .ok 5 := by rfl
  have h2 : Lib.itoa 5 = [53] := by first | rfl | kernel_rfl | (simp [Lib.itoa, Lib.decDigits]; done)
  rw [h]
  show (if ((5 : Int) < 0 ∨ Lib.itoa 5 ≠ [53]) then ((0 : Int), (3 : Int)) else if (1099511627776 : Int) < 5 then (0, 2) else (5, 0)) = (5, 0)
  rw [if_neg (by rintro (h | h); omega; exact h h2), if_neg (by omega)]
theorem aw_nat3 : natE [51] = (3, 0) := by
  unfold natE
  rw [if_neg (by decide)]
  have h : Lib.atoiAll [51] = .ok 3 := by rfl
  have h2 : Lib.itoa 3 = [51] := by first | rfl | kernel_rfl | (simp [Lib.itoa, Lib.decDigits]; done)
  rw [h]
  show (if ((3 : Int) < 0 ∨ Lib.itoa 3 ≠ [51]) then ((0 : Int), (3 : Int)) else if (1099511627776 : Int) < 3 then (0, 2) else (3, 0)) = (3, 0)
  rw [if_neg (by rintro (h | h); omega; exact h h2), if_neg (by omega)]
theorem aw_good : ∀ (i : Nat) r e, awRows[i]? = some r → awEvs[i]? = some e → GoodR r e := by
  intro i r e hr he
  match i, hr, he with
  | 0, hr, he =>
    injection hr with hr
    injection he with he
    subst hr he
    exact ⟨⟨[99, 49], [97], [53], 5, rfl, rfl, rfl, by decide, by decide, aw_nat5, by decide, rfl⟩⟩
  | 1, hr, he =>
    injection hr with hr
    injection he with he
    subst hr he
    exact ⟨⟨[99, 49], [98], [51], 3, rfl, rfl, rfl, by decide, by decide, aw_nat3, by decide, rfl⟩⟩
  | i + 2, hr, _ => simp [awRows] at hr
def awS : List Ev := [⟨bsOf [99, 49], bsOf [98], ⟨#[]⟩, 5, 3, []⟩, ⟨bsOf [99, 49], bsOf [97], ⟨#[]⟩, 5, 5, []⟩]
theorem plain_any (w : World) : Calls Tryz.prog 36 #[] w fun e w' => e = .returned (.agg #[.int .i64 0, .int .i64 1, .int .i64 (-1), .int .i64 (-1), .int .i64 2, .slice none 0 0, .slice none 0 0, .int .u8 44]) ∧ Below w.heap.size w w' := by
  have hb := bone w (.cells #[.int .i64 0, .int .i64 0, .int .i64 0, .int .i64 0, .int .i64 0, .slice none 0 0, .slice none 0 0, .int .u8 0] 33)
  have hB := Blk.new w 33 #[.int .i64 0, .int .i64 0, .int .i64 0, .int .i64 0, .int .i64 0, .slice none 0 0, .slice none 0 0, .int .u8 0]
  go_enter Tryz.func36, Tryz.ntmps36
  go_upto_region 1 with fail
  go_wp2_with fail
  have hz : Blk (w.alloc (.cells #[.int .i64 0, .int .i64 1, .int .i64 (-1), .int .i64 (-1), .int .i64 2, .slice none 0 0, .slice none 0 0, .int .u8 44] 33)) w.heap.size 33 #[.int .i64 0, .int .i64 1, .int .i64 (-1), .int .i64 (-1), .int .i64 2, .slice none 0 0, .slice none 0 0, .int .u8 44] := Blk.new _ _ _
  obtain ⟨q0, q1, q2, q3, q4, q5, q6, q7⟩ := hz.c8m
  have hbz := bone w (.cells #[.int .i64 0, .int .i64 1, .int .i64 (-1), .int .i64 (-1), .int .i64 2, .slice none 0 0, .slice none 0 0, .int .u8 44] 33)
  generalize w.alloc (.cells #[.int .i64 0, .int .i64 1, .int .i64 (-1), .int .i64 (-1), .int .i64 2, .slice none 0 0, .slice none 0 0, .int .u8 44] 33) = wz at *
  refine bodyPost_ret (v := .agg #[.int .i64 0, .int .i64 1, .int .i64 (-1), .int .i64 (-1), .int .i64 2, .slice none 0 0, .slice none 0 0, .int .u8 44]) (by simp [results, Tryz.results36, go_sem, q0, q1, q2, q3, q4, q5, q6, q7]) rfl ?_
  exact ⟨rfl, hbz⟩
theorem log_lit (w : World) : IsLog (Lt (w.alloc (.cells #[.string (bsOf [99, 49]), .string (bsOf [98]), .string ⟨#[]⟩, .int .i64 5, .int .i64 3, .slice none 0 0, .string (bsOf [99, 49]), .string (bsOf [97]), .string ⟨#[]⟩, .int .i64 5, .int .i64 5, .slice none 0 0] 69)).heap.size) (w.alloc (.cells #[.string (bsOf [99, 49]), .string (bsOf [98]), .string ⟨#[]⟩, .int .i64 5, .int .i64 3, .slice none 0 0, .string (bsOf [99, 49]), .string (bsOf [97]), .string ⟨#[]⟩, .int .i64 5, .int .i64 5, .slice none 0 0] 69)) (.agg #[.slice (some ⟨w.heap.size, 0, none⟩) 2 2]) awS := by
  refine ⟨_, rfl, ?_⟩
  have hB := Blk.new w 69 #[.string (bsOf [99, 49]), .string (bsOf [98]), .string ⟨#[]⟩, .int .i64 5, .int .i64 3, .slice none 0 0, .string (bsOf [99, 49]), .string (bsOf [97]), .string ⟨#[]⟩, .int .i64 5, .int .i64 5, .slice none 0 0]
  have hfit : ∀ e ∈ awS, FitEv e := by
    intro e he
    simp only [awS, List.mem_cons, List.not_mem_nil, or_false] at he
    rcases he with rfl | rfl <;> exact ⟨by unfold maxLen; decide, by unfold maxLen; decide, by unfold maxLen; decide, by unfold Fit; simp, by unfold Fit; simp⟩
  refine Sl.ofBlk (size := 6) (cs := [.string (bsOf [99, 49]), .string (bsOf [98]), .string ⟨#[]⟩, .int .i64 5, .int .i64 3, .slice none 0 0, .string (bsOf [99, 49]), .string (bsOf [97]), .string ⟨#[]⟩, .int .i64 5, .int .i64 5, .slice none 0 0]) (xs := awS) hB (by unfold maxLen; decide) fun i x hx => ?_
  have hm := hfit x (List.mem_of_getElem? hx)
  match i, hx with
  | 0, hx =>
    injection hx with hx
    subst hx
    exact ⟨[.string (bsOf [99, 49]), .string (bsOf [98]), .string ⟨#[]⟩, .int .i64 5, .int .i64 3, .slice none 0 0], rfl, fun j u hu => by
      match j, hu with
      | 0, hu => exact hu
      | 1, hu => exact hu
      | 2, hu => exact hu
      | 3, hu => exact hu
      | 4, hu => exact hu
      | 5, hu => exact hu
      | j + 6, hu => simp at hu, _, rfl, hm, Sl.none_⟩
  | 1, hx =>
    injection hx with hx
    subst hx
    exact ⟨[.string (bsOf [99, 49]), .string (bsOf [97]), .string ⟨#[]⟩, .int .i64 5, .int .i64 5, .slice none 0 0], rfl, fun j u hu => by
      match j, hu with
      | 0, hu => exact hu
      | 1, hu => exact hu
      | 2, hu => exact hu
      | 3, hu => exact hu
      | 4, hu => exact hu
      | 5, hu => exact hu
      | j + 6, hu => simp at hu, _, rfl, hm, Sl.none_⟩
  | i + 2, hx => simp [awS] at hx
theorem rows_lit (w : World) : SlSS (Lt ((w.alloc (.cells #[.string ⟨#[120, 34, 121]⟩] 9)).alloc (.cells #[.slice (some ⟨w.heap.size, 0, none⟩) 1 1] 51)).heap.size) ((w.alloc (.cells #[.string ⟨#[120, 34, 121]⟩] 9)).alloc (.cells #[.slice (some ⟨w.heap.size, 0, none⟩) 1 1] 51)) (.slice (some ⟨w.heap.size + 1, 0, none⟩) 1 1) [[[120, 34, 121]]] := by
  have h1 := Blk.new w 9 #[.string ⟨#[120, 34, 121]⟩]
  have hs1 : (w.alloc (.cells #[.string ⟨#[120, 34, 121]⟩] 9)).heap.size = w.heap.size + 1 := by simp
  obtain ⟨w1, hw1⟩ : ∃ w1, w.alloc (.cells #[.string ⟨#[120, 34, 121]⟩] 9) = w1 := ⟨_, rfl⟩
  rw [hw1] at h1 hs1 ⊢
  have h2 := Blk.new w1 51 #[.slice (some ⟨w.heap.size, 0, none⟩) 1 1]
  have h12 := h1.now (bone w1 (.cells #[.slice (some ⟨w.heap.size, 0, none⟩) 1 1] 51))
  obtain ⟨w2, hw2⟩ : ∃ w2, w1.alloc (.cells #[.slice (some ⟨w.heap.size, 0, none⟩) 1 1] 51) = w2 := ⟨_, rfl⟩
  rw [hw2] at h2 h12 ⊢
  rw [hs1] at h2
  have hrow : SlP (Lt w2.heap.size) w2 (.slice (some ⟨w.heap.size, 0, none⟩) 1 1) [[120, 34, 121]] := SlS.ofBlk (zs := [⟨#[120, 34, 121]⟩]) h12 (by unfold maxLen; decide) (fun z hz => by
    rw [List.mem_singleton] at hz
    subst hz
    unfold maxLen
    decide)
  refine Sl.ofBlk (size := 1) (cs := [.slice (some ⟨w.heap.size, 0, none⟩) 1 1]) (xs := [[[120, 34, 121]]]) h2 (by unfold maxLen; decide) fun i x hx => ?_
  match i, hx with
  | 0, hx =>
    injection hx with hx
    subst hx
    exact ⟨[.slice (some ⟨w.heap.size, 0, none⟩) 1 1], rfl, fun j u hu => by
      match j, hu with
      | 0, hu => exact hu
      | j + 1, hu => simp at hu, _, rfl, hrow⟩
  | i + 1, hx => simp at hx
theorem aw_write : writeE 44 [[[120, 34, 121]]] = ([34, 120, 34, 34, 121, 34, 10], 0) := by rfl
set_option maxHeartbeats 8000000 in
set_option maxRecDepth 100000 in
theorem awake_any (w : World) (ha : AmbP w) : Calls Tryz.prog 10 #[] w fun e w' => e = .returned (.bool true) ∧ Below w.heap.size w w' := by
  have HP := Lib.hid plain_any
  have HI : Hid (∀ W, AmbP W → Calls Tryz.prog 16 #[.string awText, .agg #[.int .i64 0, .int .i64 1, .int .i64 (-1), .int .i64 (-1), .int .i64 2, .slice none 0 0, .slice none 0 0, .int .u8 44]] W (RetLog awS W)) := fun W hW => by
    have := import_few awText awHead awRows awEvs W (by decide) aw_cells rfl rfl (by decide) aw_good (by decide) (by decide) hW
    rwa [aw_sorted] at this
  unfold awText at HI
  have HWR : Hid (∀ W (v : Value), SlSS (Lt W.heap.size) W v [[[120, 34, 121]]] → AmbP W → Calls Tryz.prog 12 #[v, .int .u8 44] W fun e w' => e = .returned (.tuple #[.string ⟨#[34, 120, 34, 34, 121, 34, 10]⟩, .int .i64 0]) ∧ Below W.heap.size W w') := fun W v hv hW => by
    have := write_any [[[120, 34, 121]]] v 44 W hv ⟨by decide, by
      intro r hr
      rw [List.mem_singleton] at hr
      subst hr
      exact ⟨by decide, by
        intro b hb
        rw [List.mem_singleton] at hb
        subst hb
        decide⟩⟩ hW
    rw [aw_write] at this
    exact this
  have HAM := Lib.hid ha
  have HLL := Lib.hid log_lit
  have HRL := Lib.hid rows_lit
  clear ha
  go_enter Tryz.func10, Tryz.ntmps10
  go_wp2_with fail
  (with_reducible refine (HP.out _).mono ?_)
  rintro _ w1 ⟨rfl, hb1⟩
  have HB1 := Lib.hid hb1
  clear hb1
  go_wp2_with fail
  (with_reducible refine (HI.out _ (HAM.out.now HB1.out)).mono ?_)
  rintro _ w2 ⟨u, rfl, hlog, hb2⟩
  obtain ⟨ev, rfl, hsl⟩ := hlog
  obtain ⟨Ae, ce, rfl, _, _, hsl⟩ := hsl.open_
  have HSL := Lib.hid hsl
  have HB2 := Lib.hid (bthen HB1.out hb2)
  clear hsl hb2 HB1
  have hlen : awS.length = 2 := rfl
  rw [hlen] at HSL ⊢
  go_upto_region 2 with fail
  have hg1 := Blk.new w2 38 #[.slice Ae 2 ce]
  have hb3a := bone w2 (.cells #[.slice Ae 2 ce] 38)
  have hb3b := bone (w2.alloc (.cells #[.slice Ae 2 ce] 38)) (.cells #[.int .i64 0, .int .i64 0] 40)
  have HG3 := Lib.hid (hg1.now hb3b)
  have HB23 := Lib.hid (bthen hb3a hb3b)
  obtain ⟨w3, hw3⟩ : ∃ w3, (w2.alloc (.cells #[.slice Ae 2 ce] 38)).alloc (.cells #[.int .i64 0, .int .i64 0] 40) = w3 := ⟨_, rfl⟩
  rw [hw3] at HG3 HB23 ⊢
  clear hg1 hb3a hb3b hw3
  have HB3 := Lib.hid (bthen HB2.out HB23.out)
  have HSL3 : Hid (SlEv (Lt w3.heap.size) w3 (.slice Ae 2 ce) awS) := SlEv.now HSL.out HB23.out
  have HR4 := Lib.hid (HRL.out w3)
  have HB34 := Lib.hid (bthen (bone w3 (.cells #[.string ⟨#[120, 34, 121]⟩] 9)) (bone (w3.alloc (.cells #[.string ⟨#[120, 34, 121]⟩] 9)) (.cells #[.slice (some ⟨w3.heap.size, 0, none⟩) 1 1] 51)))
  have HW4 := Lib.hid (HWR.out _ _ HR4.out ((HAM.out.now HB3.out).now HB34.out))
  go_wp2_with fail
  (with_reducible refine HW4.out.mono ?_)
  rintro _ w5 ⟨rfl, hb5⟩
  have HB35 := Lib.hid (bthen HB34.out hb5)
  have HG5 := Lib.hid (HG3.out.now HB35.out)
  have HB5 := Lib.hid (bthen HB3.out HB35.out)
  have HSL5 : Hid (SlEv (Lt w5.heap.size) w5 (.slice Ae 2 ce) awS) := SlEv.now HSL3.out HB35.out
  clear hb5 HW4 HB34 HR4 HB35 HG3 HB3 HSL3
  have HLL5 := Lib.hid (HLL.out w5)
  have HB56 := Lib.hid (bone w5 (.cells #[.string (bsOf [99, 49]), .string (bsOf [98]), .string ⟨#[]⟩, .int .i64 5, .int .i64 3, .slice none 0 0, .string (bsOf [99, 49]), .string (bsOf [97]), .string ⟨#[]⟩, .int .i64 5, .int .i64 5, .slice none 0 0] 69))
  have HSM : Hid (Calls Tryz.prog 20 #[.agg #[.slice Ae 2 ce], .agg #[.slice (some ⟨w5.heap.size, 0, none⟩) 2 2]] (w5.alloc (.cells #[.string (bsOf [99, 49]), .string (bsOf [98]), .string ⟨#[]⟩, .int .i64 5, .int .i64 3, .slice none 0 0, .string (bsOf [99, 49]), .string (bsOf [97]), .string ⟨#[]⟩, .int .i64 5, .int .i64 5, .slice none 0 0] 69)) fun x w' => x = .returned (.bool true) ∧ Below (w5.alloc (.cells #[.string (bsOf [99, 49]), .string (bsOf [98]), .string ⟨#[]⟩, .int .i64 5, .int .i64 3, .slice none 0 0, .string (bsOf [99, 49]), .string (bsOf [97]), .string ⟨#[]⟩, .int .i64 5, .int .i64 5, .slice none 0 0] 69)).heap.size (w5.alloc (.cells #[.string (bsOf [99, 49]), .string (bsOf [98]), .string ⟨#[]⟩, .int .i64 5, .int .i64 3, .slice none 0 0, .string (bsOf [99, 49]), .string (bsOf [97]), .string ⟨#[]⟩, .int .i64 5, .int .i64 5, .slice none 0 0] 69)) w') :=
    logSame_ref awS _ _ _ ⟨_, rfl, SlEv.now HSL5.out HB56.out⟩ HLL5.out
  have g0 := HG5.out.c1
  have hbs1 : bsOf [99, 49] = ⟨#[99, 49]⟩ := rfl
  have hbs2 : bsOf [98] = ⟨#[98]⟩ := rfl
  have hbs3 : bsOf [97] = ⟨#[97]⟩ := rfl
  rw [hbs1, hbs2, hbs3] at HSM HB56
  clear hbs1 hbs2 hbs3 HLL HRL HWR HI HP HLL5 HAM HSL HB23
  go_wp2_with fail
  (with_reducible refine HSM.out.mono ?_)
  rintro _ w6 ⟨rfl, hb6⟩
  have HB6 := Lib.hid (bthen HB5.out (bthen HB56.out hb6))
  clear hb6
  go_wp2_with fail
  go_ret
  exact ⟨rfl, HB6.out⟩
end Go.Proofs.YtoalecalahkblaaGreatDoor

set_option linter.all false
namespace Go.Proofs.YtoalecalahkblaaGreatDoor
open Go.ChangeShapes Go.WideShapes Go.RowKit Go.Deep
theorem add_lit' (b o n j : Nat) : ((⟨b, o, none⟩ : Addr).add n).add j = ⟨b, o + n + j, none⟩ := by
  rw [add_add']; unfold Addr.add
  by_cases h : n + j = 0
  · have h1 : n = 0 := by omega
    have h2 : j = 0 := by omega
    subst h1 h2; rfl
  · rw [if_neg h]; simp [Nat.add_assoc]
theorem cell_spot {w : World} {a : Addr} {u : Value} (h : w.cell? a = some u) : a = ⟨a.block, a.off, none⟩ ∧ a.block < w.heap.size := by
  obtain ⟨b, o, s⟩ := a
  unfold World.cell? at h
  cases s with
  | none =>
    refine ⟨rfl, ?_⟩
    rcases Nat.lt_or_ge b w.heap.size with h' | h'
    · exact h'
    · simp [Array.getElem?_eq_none h'] at h
  | some s => split at h <;> simp at h
section
variable {H : Type} {enc : TypeId × Value → H} {P : Program} {w : World} {base : Nat} {spare : Nat → Bool} {held : Bool}
theorem Sl.of_trod {α : Type} [Inhabited α] {size : Nat} {R : ElemR α} {t e : TypeId} {fuel : Nat} {v : Value} {x : DataW H × List MemPlace} (ht : P.underlying t = some (.slice e)) (hsz : P.cellsOf e = size) (hs0 : 0 < size)
    (hR : ∀ (fuel' : Nat) (cs : List Value) (y : DataW H × List MemPlace), DataW.trod enc P w base spare held fuel' e cs = some y → ∃ z, R (Lt w.heap.size) w z cs)
    (h : DataW.trod enc P w base spare held fuel t [v] = some x) : ∃ xs, Sl size R (Lt w.heap.size) w v xs := by
  rcases open_slice ht h with ⟨hv, _⟩ | ⟨a, len, cap, m, n, D, Pl, hv, _, hl, hm, hmm, _, hi⟩
  · injection hv with hv; subst hv; exact ⟨[], Sl.none_⟩
  · injection hv with hv
    subst hv
    have hlm : len ≤ m := by rw [hmm]; split <;> omega
    have key : ∀ i, ∃ z : α, i < len → ∃ cs : List Value, cs.length = size ∧ R (Lt w.heap.size) w z cs ∧ ∀ j, j < size → w.cell? ((a.add (i * size)).add j) = cs[j]? := by
      intro i
      by_cases hlt : i < len
      · obtain ⟨cs', hc, htr⟩ := hi i (by omega)
        rw [hsz] at hc
        obtain ⟨z, hz⟩ := hR _ _ _ htr
        obtain ⟨_, hcl, hat⟩ := World.cells?_some hc
        exact ⟨z, fun _ => ⟨cs', hcl, hz, hat⟩⟩
      · exact ⟨default, fun h' => absurd h' hlt⟩
    refine ⟨(List.range len).map fun i => Classical.choose (key i), some a, cap, by simp, by simpa using hl, hm, fun i z hz => ?_⟩
    rw [List.getElem?_map] at hz
    have hlt : i < len := by
      rcases Nat.lt_or_ge i len with h' | h'
      · exact h'
      · rw [List.getElem?_eq_none (by simpa using h')] at hz; simp at hz
    rw [List.getElem?_range hlt] at hz
    injection hz with hz
    obtain ⟨cs, hcl, hr, hat⟩ := Classical.choose_spec (key i) hlt
    obtain ⟨cs0, hcl0, _, hat0⟩ := Classical.choose_spec (key 0) (by omega)
    have h00 := hat0 0 hs0
    have hc0 : cs0[0]? = some (cs0[0]'(by omega)) := List.getElem?_eq_getElem (by omega)
    rw [hc0] at h00
    have ha0 : (a.add (0 * size)).add 0 = a := by simp [Addr.add]
    rw [ha0] at h00
    obtain ⟨ha, hblk⟩ := cell_spot h00
    replace hz : Classical.choose (key i) = z := hz
    rw [hz] at hr
    refine ⟨a.block, a.off, cs, by rw [← ha], hblk, hcl, hr, fun j u hu => ?_⟩
    have hj : j < size := by
      rcases Nat.lt_or_ge j cs.length with h' | h'
      · omega
      · rw [List.getElem?_eq_none h'] at hu; cases hu
    have := hat j hj
    rw [ha, add_lit'] at this
    rw [this, hu]
theorem fit_of_wf {n : Int} (h : (Lit.int .i64 n).wf = true) : Fit n := by
  have h' : decide ((-9223372036854775808 : Int) ≤ n) = true ∧ decide (n ≤ (9223372036854775807 : Int)) = true := by
    rw [← Bool.and_eq_true]; exact h
  unfold Fit
  simpa using h'
theorem SlI.of_trod {t e : TypeId} {fuel : Nat} {v : Value} {x : DataW H × List MemPlace} (ht : P.underlying t = some (.slice e)) (he : P.underlying e = some (.int .i64)) (hc : P.cellsOf e = 1)
    (h : DataW.trod enc P w base spare held fuel t [v] = some x) : ∃ zs, SlI (Lt w.heap.size) w v zs :=
  Sl.of_trod ht hc (by omega) (fun _ cs y hy => by
    obtain ⟨k, e1, e2, e3⟩ := DataW.trod_int he hy
    exact ⟨k, e1, fit_of_wf e3⟩) h
theorem SlS.of_trod {t e : TypeId} {fuel : Nat} {v : Value} {x : DataW H × List MemPlace} (ht : P.underlying t = some (.slice e)) (he : P.underlying e = some .string) (hc : P.cellsOf e = 1)
    (h : DataW.trod enc P w base spare held fuel t [v] = some x) : ∃ zs, SlS (Lt w.heap.size) w v zs :=
  Sl.of_trod ht hc (by omega) (fun _ cs y hy => by
    obtain ⟨k, e1, e2, e3⟩ := DataW.trod_string he hy
    exact ⟨k, e1, e3⟩) h
theorem post_of_below {f : Func} {s : ChangeSpec} {apart fresh handsOn again : Bool} {W W' : World} {args : Array Value} {v : Value} {ds gs : List (DataW H)} {before pa pv : List MemPlace}
    (hW : DataW.Whole enc P f.params.toList s.vars apart W args.toList ds gs before)
    (hres : ∀ (b : Nat) (sp : Nat → Bool) (hd : Bool), DataW.TrodAll enc P W' b sp hd f.resultTypes.toList (v.resultList f.resultTypes.size) (s.fn H (ds ++ gs)).results [])
    (hargs : ∀ sp : Nat → Bool, (∀ p ∈ before, sp p.block = true) → DataW.TrodAll enc P W' 0 sp true f.params.toList args.toList (s.fn H (ds ++ gs)).args pa)
    (hvars : ∀ sp : Nat → Bool, (∀ p ∈ before, sp p.block = true) → DataW.TrodVars enc P W' sp s.vars (s.fn H (ds ++ gs)).vars pv)
    (hps : before = pa ++ pv) (hb : Below W.heap.size W W')
    (hok : ∀ (j : Nat) (t : TypeId) (r : Value), f.resultTypes[j]? = some t → (v.resultList f.resultTypes.size)[j]? = some r → Value.okWide P W' .any 0 t r) :
    s.post enc P f apart fresh handsOn again W args v W' := by
  have hlt : ∀ p ∈ before, p.block < W.heap.size := fun p hp => hW.lt p hp
  have hold : ∀ p ∈ before, (fun b => decide (b < W.heap.size)) p.block = true := fun p hp => by simpa using hlt p hp
  refine ⟨ds, gs, before, [], pa, pv, hW, hres _ _ _, hargs _ hold, hvars _ hold, World.keptBut_mono (fun p hp => ⟨hp, ?_⟩) (hb.frame (· ∈ before)), fun _ => ?_⟩
  · rw [hps, List.mem_append] at hp
    exact Or.inr hp
  · obtain ⟨_, _, _, _, _, hz, hn⟩ := hW
    refine ⟨hok, _, _, ([] ++ pa) ++ pv, ⟨[] ++ pa, pv, trodAll_append (hargs _ (fun _ _ => rfl)) (hres _ _ _), hvars _ (fun _ _ => rfl), rfl, ?_, ?_⟩, ?_⟩
    · intro b off hp
      have hin : MemPlace.cell b off ∈ before := by rw [hps]; simpa using hp
      rw [hb.frozen (hlt _ hin)]
      exact hz b off hin
    · intro ha
      have := hn ha
      rw [hps] at this
      simpa using this
    · intro p hp _
      rw [hps]
      simpa using hp
end
end Go.Proofs.YtoalecalahkblaaGreatDoor

set_option linter.all false
namespace Go.Proofs.YtoalecalahkblaaGreatDoor
open Go.ChangeShapes Go.WideShapes Go.ChangeAt Go.RowKit Go.Deep
section
variable {H : Type} {enc : TypeId × Value → H} {P : Program} {w : World} {base : Nat} {spare : Nat → Bool} {held : Bool}
end
theorem own : ownKnob Tryz.prog.godebug = none := by kernel_rfl
theorem laidOut : laidOutB Tryz.prog = true := by kernel_rfl
theorem door_met (os : Os) (args : Array Value) : laidMetH Tryz.prog Rows.importsWritesRow.laid ((World.laidAll Tryz.prog os Rows.importsWritesRow.laid).forCall (fun _ _ => 0) ⟨#[], args, []⟩).memory := by
  rw [MakeChecks.laidMetH_plain _ _ _ (by kernel_rfl)]
  exact laidMet_laidAll _ (by kernel_rfl) (by kernel_rfl)
theorem stays {H : Type} {enc : TypeId × Value → H} {t : TypeId} (hr : Tryz.prog.readableRec t = true) (hrow : t < Tryz.prog.types.size) {W W' : World} {v : Value} {d : DataW H} {ps : List MemPlace} {sp : Nat → Bool}
    (h : DataW.Trod enc Tryz.prog W 0 (fun _ => true) true t v d ps) (hb : Below W.heap.size W W') (hlt : ∀ x ∈ ps, x.block < W.heap.size) (hsp : ∀ x ∈ ps, sp x.block = true) : DataW.Trod enc Tryz.prog W' 0 sp true t v d ps :=
  WideElems.Trod_stays laidOut hr hrow h (fun x hx => hb.same (hlt x hx)) hsp
theorem laid_at {P : Program} {w : World} {n : String} {d : DataW Unit} : ∀ {l : List (String × DataW Unit)} {ps : List MemPlace}, DataW.LaidVars P w l ps → (n, d) ∈ l →
    ∃ g t cs fuel p, P.globalNamed n = some g ∧ (P.globals[g]?).map (·.type) = some t ∧ w.var? P n = some cs ∧ DataW.trod (fun _ => ()) P w 0 (fun _ => true) false fuel t cs.toList = some (d, p) := by
  intro l
  induction l with
  | nil => intro ps _ h; cases h
  | cons a l ih =>
    intro ps h hm
    obtain ⟨n', d'⟩ := a
    obtain ⟨g, t, cs, fuel, p, q, h1, h2, h3, h4, h5, _⟩ := h
    rcases List.mem_cons.1 hm with e | hm
    · injection e with e1 e2
      subst e1 e2
      exact ⟨g, t, cs, fuel, p, h1, h2, h3, h4⟩
    · exact ih h5 hm
theorem tab_same : (Rows.laid_internal_strconv_uint64pow10 : DataW Unit) = Lib.tabData .u64 Lib.pow10Tab := by rfl
theorem gPow : Tryz.prog.globalNamed "internal/strconv.uint64pow10" = some 5 := by kernel_rfl
theorem gSyn : Tryz.prog.globalNamed "strconv.ErrSyntax" = some 3 := by kernel_rfl
theorem gRng : Tryz.prog.globalNamed "strconv.ErrRange" = some 4 := by kernel_rfl
theorem tPow : (Tryz.prog.globals[5]?).map (·.type) = some 240 := by kernel_rfl
theorem tSyn : (Tryz.prog.globals[3]?).map (·.type) = some 77 := by kernel_rfl
theorem tRng : (Tryz.prog.globals[4]?).map (·.type) = some 77 := by kernel_rfl
theorem err_of {P : Program} {w : World} {n : String} {g : Nat} {t : TypeId} {ms : Array (String × TypeId)} {name : String} {d : DataW Unit} {l : List (String × DataW Unit)} {ps : List MemPlace} (hl : DataW.LaidVars P w l ps) (hm : (n, .iface name d) ∈ l)
    (hg : P.globalNamed n = some g) (ht : (P.globals[g]?).map (·.type) = some t) (hi : P.underlying t = some (.interface ms)) : ∃ tp p, w.var? P n = some #[.iface tp p] := by
  obtain ⟨g', t', cs, fuel, p, h1, h2, h3, h4⟩ := laid_at hl hm
  obtain rfl := Option.some.inj (hg.symm.trans h1)
  obtain rfl := Option.some.inj (ht.symm.trans h2)
  obtain ⟨_, u, v, hcs, _⟩ := iface_of_trod hi h4
  refine ⟨u, v, ?_⟩
  rw [h3]
  cases cs
  simp_all
theorem tab_of {P : Program} {w : World} {n : String} {g : Nat} {t e : TypeId} {m : Nat} {k : IntKind} {zs : List Int} {l : List (String × DataW Unit)} {ps : List MemPlace} (hl : DataW.LaidVars P w l ps) (hm : (n, Lib.tabData k zs) ∈ l)
    (hg : P.globalNamed n = some g) (hty : (P.globals[g]?).map (·.type) = some t) (ht : P.underlying t = some (.array m e)) (he : P.underlying e = some (.int k)) (hce : P.cellsOf e = 1) (hct : P.cellsOf t = m) : Lib.TabIs P w n k zs := by
  obtain ⟨g', t', cs, fuel, p, h1, h2, h3, h4⟩ := laid_at hl hm
  obtain rfl := Option.some.inj (hg.symm.trans h1)
  obtain rfl := Option.some.inj (hty.symm.trans h2)
  unfold Lib.TabIs
  rw [h3, ← Lib.cells_of_tab ht he hce hct h4]
theorem laid_list : Rows.importsWritesRow.laid = [("math/bits.deBruijn32tab", Rows.laid_math_bits_deBruijn32tab), ("math/bits.deBruijn64tab", Rows.laid_math_bits_deBruijn64tab), ("internal/strconv.uint64pow10", Rows.laid_internal_strconv_uint64pow10), ("unicode/utf8.acceptRanges", Rows.laid_unicode_utf8_acceptRanges), ("strconv.ErrRange", Rows.laid_strconv_ErrRange), ("strconv.ErrSyntax", Rows.laid_strconv_ErrSyntax), ("unicode/utf8.first", Rows.laid_unicode_utf8_first)] := rfl
theorem cellsU64 : Tryz.prog.cellsOf 192 = 1 := by kernel_rfl
theorem cellsTab : Tryz.prog.cellsOf 240 = 20 := by kernel_rfl
theorem uTab : Tryz.prog.underlying 240 = some (.array 20 192) := by kernel_rfl
theorem uU64 : Tryz.prog.underlying 192 = some (.int .u64) := by kernel_rfl
theorem met_plain {w : World} (h : laidMetH Tryz.prog Rows.importsWritesRow.laid w) : laidMet Tryz.prog Rows.importsWritesRow.laid w := by
  rw [MakeChecks.laidMetH_plain _ _ _ (by kernel_rfl)] at h
  exact h
theorem amb_of {w : World} (h : laidMetH Tryz.prog Rows.importsWritesRow.laid w) (hsh : w.ShapedOpen Tryz.prog) : AmbP w := by
  obtain ⟨ps, hl, _⟩ := met_plain h
  rw [laid_list] at hl
  refine ⟨tab_of hl (by rw [← tab_same]; simp only [List.mem_cons, true_or, or_true]) gPow tPow uTab uU64 cellsU64 cellsTab, ?_, ?_, ?_⟩
  · exact err_of (name := "*errors.errorString") hl (.tail _ (.tail _ (.tail _ (.tail _ (.tail _ (.head _)))))) gSyn tSyn Tryz.underlying77
  · exact err_of (name := "*errors.errorString") hl (.tail _ (.tail _ (.tail _ (.tail _ (.head _))))) gRng tRng Tryz.underlying77
  · exact cell_of_shapedOpen_int (zero := #[.int .i64 0]) (t := 3) hsh (of_decide_eq_true (by kernel_rfl)) (by kernel_rfl) rfl (by kernel_rfl) (by kernel_rfl) Tryz.underlying3
theorem handed_shaped {H : Type} {enc : TypeId × Value → H} {a : Assume} {C : Checked} {os : Os} {f : FuncId} {fn : Func} {s : ChangeSpec} {conds : List PathCond} {apart fresh handsOn again : Bool} {X : World → Array Value → Prop}
    (hX : ∀ (w w' : World) (args : Array Value), w.heap = w'.heap → X w args → X w' args)
    (own : ownKnob C.prog.godebug = none) (started : os.Started) (noInit : C.prog.inits.idxOf? f = none) (hfn : C.prog.funcs[f]? = some fn)
    (witness : ∃ (w : World) (tape : Tape) (i : Input), w.os = os ∧ (w.forCall tape i).Shaped C.prog ∧ i.vars = [] ∧ Input.okWide C.prog (w.forCall tape i) .any w.heap.size f i ∧
      ((s.pre enc C.prog fn conds apart (w.forCall tape i).memory i.args ∧ X (w.forCall tape i).memory i.args) ∧ sizedMet enc C.prog fn (OpenSpec.ofChange s) apart (w.forCall tape i).memory i.args) ∧ a.holds C.prog (lone (Frame.enter C.prog f i.args .normal) [] (w.forCall tape i)))
    (contract : ∀ (W : World) (base : Nat) (args : Array Value) (ds gs : List (DataW H)) (before : List MemPlace),
      (∀ (j : Nat) t v, fn.params[j]? = some t → args[j]? = some v → Value.okWide C.prog W .any base t v) →
      DataW.Whole enc C.prog fn.params.toList s.vars apart W args.toList ds gs before → W.ShapedOpen C.prog → X W args →
      Calls C.prog f args W fun e W' => ∃ v, e = .returned v ∧ s.post enc C.prog fn apart fresh handsOn again W args v W') :
    ReturnsInHanded a C os f .any (fun w args => (s.pre enc C.prog fn conds apart w args ∧ X w args) ∧ sizedMet enc C.prog fn (OpenSpec.ofChange s) apart w args) (s.post enc C.prog fn apart fresh handsOn again) := by
  refine returnsInHanded_of_calls own started noInit witness ?_
  intro w tape i _ hsh _ hok hpre hholds
  obtain ⟨_, _, _, fn', hfn', _, _, _, _, hval⟩ := hok
  have e : fn' = fn := Option.some.inj (hfn'.symm.trans hfn)
  subst e
  obtain ⟨⟨⟨ds, gs, before, hw, hc⟩, hx⟩, hz⟩ := hpre
  have hw' := DataW.Whole.of_heap (w' := w.forCall tape i) (by rfl) hw
  refine (contract (w.forCall tape i) w.heap.size i.args ds gs before hval hw' hsh (hX _ _ _ (by rfl) hx)).mono fun e W' ⟨v, he, hp⟩ => ?_
  subst he
  exact ChangeSpec.post_blind hp
section
variable {H : Type} {enc : TypeId × Value → H} {w : World} {base : Nat} {spare : Nat → Bool} {held : Bool}
end
theorem byte_of_wf {n : Int} (h : (Lit.int .u8 n).wf = true) : ∃ c : UInt8, n = (c.toNat : Int) := by
  have h' : decide ((0 : Int) ≤ n) = true ∧ decide (n ≤ (255 : Int)) = true := by
    rw [← Bool.and_eq_true]; exact h
  obtain ⟨h1, h2⟩ := h'
  have h1 := of_decide_eq_true h1
  have h2 := of_decide_eq_true h2
  exact ⟨UInt8.ofNat n.toNat, by rw [UInt8.toNat_ofNat']; omega⟩
end Go.Proofs.YtoalecalahkblaaGreatDoor

set_option linter.all false
namespace Go.Proofs.YtoalecalahkblaaGreatDoor
open Go.ChangeShapes Go.WideShapes Go.ChangeAt Go.RowKit Go.Deep
theorem readMp : Tryz.prog.readableRec 33 = true := by kernel_rfl
theorem rowMp : 33 < Tryz.prog.types.size := of_decide_eq_true (by kernel_rfl)
theorem cellsMp : Tryz.prog.cellsOf 33 = 8 := by kernel_rfl
theorem cellsInts : Tryz.prog.cellsOf 31 = 1 := by kernel_rfl
theorem cellsU8 : Tryz.prog.cellsOf 5 = 1 := by kernel_rfl
theorem readLog : Tryz.prog.readableRec 38 = true := by kernel_rfl
theorem rowLog : 38 < Tryz.prog.types.size := of_decide_eq_true (by kernel_rfl)
theorem cellsInt : Tryz.prog.cellsOf 3 = 1 := by kernel_rfl
theorem cellsStr : Tryz.prog.cellsOf 9 = 1 := by kernel_rfl
theorem cellsVal : Tryz.prog.cellsOf 121 = 3 := by kernel_rfl
theorem cellsFld : Tryz.prog.cellsOf 123 = 4 := by kernel_rfl
theorem cellsFlds : Tryz.prog.cellsOf 67 = 1 := by kernel_rfl
theorem cellsEv : Tryz.prog.cellsOf 69 = 6 := by kernel_rfl
theorem cellsEvs : Tryz.prog.cellsOf 36 = 1 := by kernel_rfl
theorem cellsLog : Tryz.prog.cellsOf 38 = 1 := by kernel_rfl
instance : Inhabited Fld := ⟨⟨emptyS, noV⟩⟩
instance : Inhabited Ev := ⟨⟨emptyS, emptyS, emptyS, 0, 0, []⟩⟩
section
variable {H : Type} {enc : TypeId × Value → H} {w : World} {base : Nat} {spare : Nat → Bool} {held : Bool}
theorem trod_struct6 {P : Program} {t : TypeId} {f0 f1 f2 f3 f4 f5 : Field} {fuel : Nat} {cs : List Value} {x : DataW H × List MemPlace} (ht : P.underlying t = some (.struct #[f0, f1, f2, f3, f4, f5])) (h : DataW.trod enc P w base spare held fuel t cs = some x) :
    ∃ y0 y1 y2 y3 y4 y5 n, cs.length = P.cellsOf t ∧ DataW.trod enc P w base spare held n f0.type ((cs.drop f0.offset).take (P.cellsOf f0.type)) = some y0 ∧
      DataW.trod enc P w base spare held n f1.type ((cs.drop f1.offset).take (P.cellsOf f1.type)) = some y1 ∧ DataW.trod enc P w base spare held n f2.type ((cs.drop f2.offset).take (P.cellsOf f2.type)) = some y2 ∧
      DataW.trod enc P w base spare held n f3.type ((cs.drop f3.offset).take (P.cellsOf f3.type)) = some y3 ∧ DataW.trod enc P w base spare held n f4.type ((cs.drop f4.offset).take (P.cellsOf f4.type)) = some y4 ∧
      DataW.trod enc P w base spare held n f5.type ((cs.drop f5.offset).take (P.cellsOf f5.type)) = some y5 := by
  obtain ⟨xs, n, _, rfl, hl, hlen, hf⟩ := DataW.trod_struct ht h
  match xs, hlen with
  | [y0, y1, y2, y3, y4, y5], _ => exact ⟨y0, y1, y2, y3, y4, y5, n, hl, by simpa using hf 0 f0 rfl, by simpa using hf 1 f1 rfl, by simpa using hf 2 f2 rfl, by simpa using hf 3 f3 rfl, by simpa using hf 4 f4 rfl, by simpa using hf 5 f5 rfl⟩
theorem trod_struct1 {P : Program} {t : TypeId} {f0 : Field} {fuel : Nat} {cs : List Value} {x : DataW H × List MemPlace} (ht : P.underlying t = some (.struct #[f0])) (h : DataW.trod enc P w base spare held fuel t cs = some x) :
    ∃ y0 n, cs.length = P.cellsOf t ∧ DataW.trod enc P w base spare held n f0.type ((cs.drop f0.offset).take (P.cellsOf f0.type)) = some y0 := by
  obtain ⟨xs, n, _, rfl, hl, hlen, hf⟩ := DataW.trod_struct ht h
  match xs, hlen with
  | [y0], _ => exact ⟨y0, n, hl, by simpa using hf 0 f0 rfl⟩
theorem trod_struct2 {P : Program} {t : TypeId} {f0 f1 : Field} {fuel : Nat} {cs : List Value} {x : DataW H × List MemPlace} (ht : P.underlying t = some (.struct #[f0, f1])) (h : DataW.trod enc P w base spare held fuel t cs = some x) :
    ∃ y0 y1 n, cs.length = P.cellsOf t ∧ DataW.trod enc P w base spare held n f0.type ((cs.drop f0.offset).take (P.cellsOf f0.type)) = some y0 ∧ DataW.trod enc P w base spare held n f1.type ((cs.drop f1.offset).take (P.cellsOf f1.type)) = some y1 := by
  obtain ⟨xs, n, _, rfl, hl, hlen, hf⟩ := DataW.trod_struct ht h
  match xs, hlen with
  | [y0, y1], _ => exact ⟨y0, y1, n, hl, by simpa using hf 0 f0 rfl, by simpa using hf 1 f1 rfl⟩
theorem trod_struct3r {P : Program} {t : TypeId} {f0 f1 f2 : Field} {fuel : Nat} {cs : List Value} {x : DataW H × List MemPlace} (ht : P.underlying t = some (.struct #[f0, f1, f2])) (h : DataW.trod enc P w base spare held fuel t cs = some x) :
    ∃ y0 y1 y2 n, cs.length = P.cellsOf t ∧ DataW.trod enc P w base spare held n f0.type ((cs.drop f0.offset).take (P.cellsOf f0.type)) = some y0 ∧ DataW.trod enc P w base spare held n f1.type ((cs.drop f1.offset).take (P.cellsOf f1.type)) = some y1 ∧
      DataW.trod enc P w base spare held n f2.type ((cs.drop f2.offset).take (P.cellsOf f2.type)) = some y2 := by
  obtain ⟨xs, n, _, rfl, hl, hlen, hf⟩ := DataW.trod_struct ht h
  match xs, hlen with
  | [y0, y1, y2], _ => exact ⟨y0, y1, y2, n, hl, by simpa using hf 0 f0 rfl, by simpa using hf 1 f1 rfl, by simpa using hf 2 f2 rfl⟩
set_option maxRecDepth 100000 in
theorem valCells_of (fuel : Nat) (cs : List Value) (y : DataW H × List MemPlace) (h : DataW.trod enc Tryz.prog w base spare held fuel 121 cs = some y) : ∃ v, RVal (Lt w.heap.size) w v cs := by
  obtain ⟨y0, y1, y2, n, hl, h0, h1, h2⟩ := trod_struct3r Tryz.underlying121 h
  rw [cellsVal] at hl
  match cs, hl with
  | [c0, c1, c2], _ =>
    simp only [cellsStr, cellsInt, List.drop_zero, List.take_succ_cons, List.take_zero, List.drop_succ_cons] at h0 h1 h2
    obtain ⟨a, e0, _, w0⟩ := DataW.trod_int Tryz.underlying3 h0
    obtain ⟨b, e1, _, w1⟩ := DataW.trod_int Tryz.underlying3 h1
    obtain ⟨s, e2, _, hs⟩ := DataW.trod_string Tryz.underlying9 h2
    injection e0 with e0; injection e1 with e1; injection e2 with e2
    subst e0 e1 e2
    exact ⟨⟨a, b, s⟩, rfl, fit_of_wf w0, fit_of_wf w1, hs⟩
set_option maxRecDepth 100000 in
theorem fldCells_of (fuel : Nat) (cs : List Value) (y : DataW H × List MemPlace) (h : DataW.trod enc Tryz.prog w base spare held fuel 123 cs = some y) : ∃ v, RFld (Lt w.heap.size) w v cs := by
  obtain ⟨y0, y1, n, hl, h0, h1⟩ := trod_struct2 Tryz.underlying123 h
  rw [cellsFld] at hl
  match cs, hl with
  | [c0, c1, c2, c3], _ =>
    simp only [cellsStr, cellsVal, List.drop_zero, List.take_succ_cons, List.take_zero, List.drop_succ_cons] at h0 h1
    obtain ⟨s, e0, _, hs⟩ := DataW.trod_string Tryz.underlying9 h0
    obtain ⟨v, ev, hfv⟩ := valCells_of _ _ _ h1
    injection e0 with e0
    injection ev with e1 ev; injection ev with e2 ev; injection ev with e3 ev
    subst e0 e1 e2 e3
    exact ⟨⟨s, v⟩, rfl, hs, hfv⟩
set_option maxRecDepth 100000 in
theorem evCells_of (fuel : Nat) (cs : List Value) (y : DataW H × List MemPlace) (h : DataW.trod enc Tryz.prog w base spare held fuel 69 cs = some y) : ∃ v, REv (Lt w.heap.size) w v cs := by
  obtain ⟨y0, y1, y2, y3, y4, y5, n, hl, h0, h1, h2, h3, h4, h5⟩ := trod_struct6 Tryz.underlying69 h
  rw [cellsEv] at hl
  match cs, hl with
  | [c0, c1, c2, c3, c4, c5], _ =>
    simp only [cellsStr, cellsInt, cellsFlds, List.drop_zero, List.take_succ_cons, List.take_zero, List.drop_succ_cons] at h0 h1 h2 h3 h4 h5
    obtain ⟨s0, e0, _, hs0⟩ := DataW.trod_string Tryz.underlying9 h0
    obtain ⟨s1, e1, _, hs1⟩ := DataW.trod_string Tryz.underlying9 h1
    obtain ⟨s2, e2, _, hs2⟩ := DataW.trod_string Tryz.underlying9 h2
    obtain ⟨a, e3, _, w3⟩ := DataW.trod_int Tryz.underlying3 h3
    obtain ⟨b, e4, _, w4⟩ := DataW.trod_int Tryz.underlying3 h4
    obtain ⟨zs, hz⟩ := Sl.of_trod (R := RFld) (size := 4) Tryz.underlying67 cellsFld (by omega) fldCells_of h5
    injection e0 with e0; injection e1 with e1; injection e2 with e2; injection e3 with e3; injection e4 with e4
    subst e0 e1 e2 e3 e4
    exact ⟨⟨s0, s1, s2, a, b, zs⟩, c5, rfl, ⟨hs0, hs1, hs2, fit_of_wf w3, fit_of_wf w4⟩, hz⟩
set_option maxRecDepth 100000 in
theorem log_of {r : Go.Reach} {b0 : Nat} {v : Value} {d : DataW H} {p : List MemPlace} (hv : Value.okWide Tryz.prog w r b0 38 v) (h : DataW.Trod enc Tryz.prog w base spare held 38 v d p) : ∃ x : List Ev, IsLog (Lt w.heap.size) w v x := by
  obtain ⟨cs, rfl, hsz⟩ := okWide_struct Tryz.underlying38 hv
  rw [cellsLog] at hsz
  obtain ⟨l⟩ := cs
  match l, hsz with
  | [c0], _ =>
    obtain ⟨fuel, hf⟩ := h
    obtain ⟨y0, n, hl, h0⟩ := trod_struct1 Tryz.underlying38 hf
    simp only [Value.cells, cellsEvs, List.drop_zero, List.take_succ_cons, List.take_zero, List.drop_succ_cons] at h0
    obtain ⟨zs, hz⟩ := Sl.of_trod (R := REv) (size := 6) Tryz.underlying36 cellsEv (by omega) evCells_of h0
    exact ⟨zs, _, rfl, hz⟩
theorem trod_struct8 {P : Program} {t : TypeId} {f0 f1 f2 f3 f4 f5 f6 f7 : Field} {fuel : Nat} {cs : List Value} {x : DataW H × List MemPlace} (ht : P.underlying t = some (.struct #[f0, f1, f2, f3, f4, f5, f6, f7])) (h : DataW.trod enc P w base spare held fuel t cs = some x) :
    ∃ y0 y1 y2 y3 y4 y5 y6 y7 n, cs.length = P.cellsOf t ∧ DataW.trod enc P w base spare held n f0.type ((cs.drop f0.offset).take (P.cellsOf f0.type)) = some y0 ∧ DataW.trod enc P w base spare held n f1.type ((cs.drop f1.offset).take (P.cellsOf f1.type)) = some y1 ∧ DataW.trod enc P w base spare held n f2.type ((cs.drop f2.offset).take (P.cellsOf f2.type)) = some y2 ∧ DataW.trod enc P w base spare held n f3.type ((cs.drop f3.offset).take (P.cellsOf f3.type)) = some y3 ∧ DataW.trod enc P w base spare held n f4.type ((cs.drop f4.offset).take (P.cellsOf f4.type)) = some y4 ∧ DataW.trod enc P w base spare held n f5.type ((cs.drop f5.offset).take (P.cellsOf f5.type)) = some y5 ∧ DataW.trod enc P w base spare held n f6.type ((cs.drop f6.offset).take (P.cellsOf f6.type)) = some y6 ∧ DataW.trod enc P w base spare held n f7.type ((cs.drop f7.offset).take (P.cellsOf f7.type)) = some y7 := by
  obtain ⟨xs, n, _, rfl, hl, hlen, hf⟩ := DataW.trod_struct ht h
  match xs, hlen with
  | [y0, y1, y2, y3, y4, y5, y6, y7], _ => exact ⟨y0, y1, y2, y3, y4, y5, y6, y7, n, hl, by simpa using hf 0 f0 rfl, by simpa using hf 1 f1 rfl, by simpa using hf 2 f2 rfl, by simpa using hf 3 f3 rfl, by simpa using hf 4 f4 rfl, by simpa using hf 5 f5 rfl, by simpa using hf 6 f6 rfl, by simpa using hf 7 f7 rfl⟩
set_option maxRecDepth 100000 in
theorem intsM_of {fuel : Nat} {v : Value} {x : DataW H × List MemPlace} (h : DataW.trod enc Tryz.prog w base spare held fuel 31 [v] = some x) : ∃ zs, SlI (Lt w.heap.size) w v zs :=
  SlI.of_trod Tryz.underlying31 Tryz.underlying3 cellsInt h
set_option maxRecDepth 100000 in
theorem mp_of {r : Go.Reach} {b0 : Nat} {v : Value} {d : DataW H} {p : List MemPlace} (hv : Value.okWide Tryz.prog w r b0 33 v) (h : DataW.Trod enc Tryz.prog w base spare held 33 v d p) : ∃ x : Mp, IsMp (Lt w.heap.size) w v x := by
  obtain ⟨cs, rfl, hsz⟩ := okWide_struct Tryz.underlying33 hv
  rw [cellsMp] at hsz
  obtain ⟨l⟩ := cs
  match l, hsz with
  | [c0, c1, c2, c3, c4, c5, c6, c7], _ =>
    obtain ⟨fuel, hf⟩ := h
    obtain ⟨y0, y1, y2, y3, y4, y5, y6, y7, n, hl, h0, h1, h2, h3, h4, h5, h6, h7⟩ := trod_struct8 Tryz.underlying33 hf
    simp only [Value.cells, cellsInt, cellsInts, cellsU8, List.drop_zero, List.take_succ_cons, List.take_zero, List.drop_succ_cons] at h0 h1 h2 h3 h4 h5 h6 h7
    obtain ⟨a0, e0, _, w0⟩ := DataW.trod_int Tryz.underlying3 h0
    obtain ⟨a1, e1, _, w1⟩ := DataW.trod_int Tryz.underlying3 h1
    obtain ⟨a2, e2, _, w2⟩ := DataW.trod_int Tryz.underlying3 h2
    obtain ⟨a3, e3, _, w3⟩ := DataW.trod_int Tryz.underlying3 h3
    obtain ⟨a4, e4, _, w4⟩ := DataW.trod_int Tryz.underlying3 h4
    obtain ⟨ds, hds⟩ := intsM_of h5
    obtain ⟨ks, hks⟩ := intsM_of h6
    obtain ⟨a7, e7, _, w7⟩ := DataW.trod_int Tryz.underlying5 h7
    obtain ⟨c, rfl⟩ := byte_of_wf w7
    injection e0 with e0; injection e1 with e1; injection e2 with e2; injection e3 with e3; injection e4 with e4; injection e7 with e7
    subst e0 e1 e2 e3 e4 e7
    exact ⟨⟨a0, a1, a2, a3, a4, ds, ks, c⟩, c5, c6, rfl, ⟨fit_of_wf w0, fit_of_wf w1, fit_of_wf w2, fit_of_wf w3, fit_of_wf w4⟩, hds, hks⟩
end
end Go.Proofs.YtoalecalahkblaaGreatDoor
