/- Texts of this seat, merged. -/
import Derived.Deep.CutRange
import Derived.Deep.CutBlock
import Derived.Orders
import Derived.Deep.Quiet
import Derived.StillTail
import Derived.Deep.RegionHeld
import Derived.Deep.RegionHeld3
import Derived.Laws.MakeOwn
import Derived.StillTailTactics
import Derived.Deep.RegionWith
import Derived.Deep.RegionLaw
import Derived.Test.YtjglmjdfndcmmaaZb01
import Derived.Test.YtjglmjdfndcmmaaZb02
import Derived.Test.YtjglmjdfndcmmaaZb03
import Derived.Test.YtjglmjdfndcmmaaZb04
import Derived.Test.YtjglmjdfndcmmaaZb05
import Derived.Test.YtjglmjdfndcmmaaZb06
import Derived.Test.YtjglmjdfndcmmaaZb07
import Derived.Test.YtjglmjdfndcmmaaZb09
import Derived.Test.YtjglmjdfndcmmaaZb10
import Derived.Test.YtjglmjdfndcmmaaZb11
import Derived.Test.YtjglmjdfndcmmaaZb12
import Derived.Test.YtjglmjdfndcmmaaZb13
import Derived.Test.YtjglmjdfndcmmaaZb14
import Derived.Test.YtjglmjdfndcmmaaZb15
import Derived.Test.YtjglmjdfndcmmaaZb16
import Derived.Test.YtjglmjdfndcmmaaZb17
import Derived.Test.YtjglmjdfndcmmaaZb18
import Derived.Test.YtjglmjdfndcmmaaZb19
import Derived.Test.YtjglmjdfndcmmaaZb20
set_option linter.all false
set_option linter.all false
namespace Go.Proofs.Ytjglmjdfndcmmaa
open Go.RowKit
structure PremC (n below : Nat) (l : List UInt8) (q : Bool) (vals : List Nat) (t : List UInt8) : Prop where
  q : q = false
  len : vals.length = n
  ok : ∀ x ∈ vals, x < below
  code : l = arRuns vals ++ t
structure InvC (n below : Nat) (l : List UInt8) (q : Bool) (out : List Nat) (l' : List UInt8) (q' : Bool) : Prop where
  up : q' = false → q = false
  bnd : ∀ x ∈ out, x < below
  len : out.length ≤ n
  whole : ∀ vals t, PremC n below l q vals t → q' = false ∧ out = vals.take out.length ∧ l' = arRuns (vals.drop out.length) ++ t
structure GotC (n below : Nat) (l : List UInt8) (q : Bool) (out : List Nat) (l' : List UInt8) (q' : Bool) : Prop where
  up : q' = false → q = false
  bnd : ∀ x ∈ out, x < below
  len : out.length ≤ n
  full : q' = false → out.length = n
  whole : ∀ vals t, PremC n below l q vals t → q' = false ∧ out = vals ∧ l' = t
theorem InvC.start {n below : Nat} {l : List UInt8} {q : Bool} : InvC n below l q [] l q := ⟨id, by simp, Nat.zero_le _, fun vals t h => ⟨h.q, by simp, h.code⟩⟩
theorem InvC.got {n below : Nat} {l l' : List UInt8} {q q' : Bool} {out : List Nat} (h : InvC n below l q out l' q') (he : out.length = n ∨ q' = true) : GotC n below l q out l' q' := by
  refine ⟨h.up, h.bnd, h.len, fun hq => ?_, fun vals t hp => ?_⟩
  · rcases he with he | he
    · exact he
    · rw [hq] at he; cases he
  · obtain ⟨e1, e2, e3⟩ := h.whole vals t hp
    rcases he with he | he
    · rw [he, ← hp.len, List.take_length] at e2
      rw [he, ← hp.len, List.drop_length, arRuns_nil, List.nil_append] at e3
      exact ⟨e1, e2, e3⟩
    · rw [e1] at he; cases he
theorem InvC.more {n below x k : Nat} {l l' l1 l2 : List UInt8} {q q1 q2 : Bool} {out : List Nat} (h : InvC n below l q out l' false) (hi : out.length < n) (hn : n < 1000000) (hb : below < 1000000) (h1 : GotM ((below : Int) - 1) l' false x l1 q1) (h2 : GotM ((n : Int) - (out.length : Int)) l1 q1 k l2 q2) (hk : k ≠ 0) : InvC n below l q (if q2 then out else out ++ List.replicate k x) l2 q2 := by
  cases q2
  · have hx := h1.le (h2.up rfl)
    have hkl := h2.le rfl
    refine ⟨fun _ => h.up rfl, fun y hy => ?_, ?_, fun vals t hp => ?_⟩
    · rcases List.mem_append.1 hy with hy | hy
      · exact h.bnd y hy
      · rw [(List.mem_replicate.1 hy).2]; omega
    · show (out ++ List.replicate k x).length ≤ n
      rw [List.length_append, List.length_replicate]; omega
    · obtain ⟨-, e2, e3⟩ := h.whole vals t hp
      obtain ⟨y, K, hK, hiK, hy, hr⟩ := runs_split (vals := vals) (i := out.length) (by rw [hp.len]; exact hi)
      rw [hr] at e3
      have hyb := hp.ok y (List.mem_of_getElem? (hy out.length (Nat.le_refl _) (by omega)))
      obtain ⟨rfl, e4, e5⟩ := h1.whole y (arNum K ++ arRuns (vals.drop (out.length + K)) ++ t) rfl (by rw [e3, List.append_assoc]) (by omega) (by omega)
      have := hp.len
      obtain ⟨rfl, e6, e7⟩ := h2.whole K (arRuns (vals.drop (out.length + K)) ++ t) e5 (by rw [e4, List.append_assoc]) (by omega) (by omega)
      refine ⟨rfl, ?_, ?_⟩
      · show out ++ List.replicate k x = vals.take (out ++ List.replicate k x).length
        rw [List.length_append, List.length_replicate]
        apply List.ext_getElem
        · rw [List.length_append, List.length_replicate, List.length_take]; omega
        · intro m m1 m2
          rw [List.length_append, List.length_replicate] at m1
          rw [List.getElem_take]
          rcases Nat.lt_or_ge m out.length with hm | hm
          · rw [List.getElem_append_left hm]
            have h3 : out[m]? = (vals.take out.length)[m]? := by rw [← e2]
            rw [List.getElem?_eq_getElem hm, List.getElem?_take, if_pos hm, List.getElem?_eq_getElem (by omega)] at h3
            injection h3
          · rw [List.getElem_append_right hm, List.getElem_replicate]
            have h3 := hy m hm (by omega)
            rw [List.getElem?_eq_getElem (by omega)] at h3
            injection h3 with h3
            exact h3.symm
      · show l2 = arRuns (vals.drop (out ++ List.replicate k x).length) ++ t
        rw [List.length_append, List.length_replicate]; exact e6
  · refine ⟨fun h => (by cases h), h.bnd, h.len, fun vals t hp => ?_⟩
    obtain ⟨-, e2, e3⟩ := h.whole vals t hp
    obtain ⟨y, K, hK, hiK, hy, hr⟩ := runs_split (vals := vals) (i := out.length) (by rw [hp.len]; exact hi)
    rw [hr] at e3
    have hyb := hp.ok y (List.mem_of_getElem? (hy out.length (Nat.le_refl _) (by omega)))
    obtain ⟨rfl, e4, e5⟩ := h1.whole y (arNum K ++ arRuns (vals.drop (out.length + K)) ++ t) rfl (by rw [e3, List.append_assoc]) (by omega) (by omega)
    have := hp.len
    obtain ⟨rfl, e6, e7⟩ := h2.whole K (arRuns (vals.drop (out.length + K)) ++ t) e5 (by rw [e4, List.append_assoc]) (by omega) (by omega)
    cases e7
theorem InvC.none_ {n below x : Nat} {l l' l1 l2 : List UInt8} {q q1 q2 : Bool} {out : List Nat} (h : InvC n below l q out l' false) (hi : out.length < n) (hn : n < 1000000) (hb : below < 1000000) (h1 : GotM ((below : Int) - 1) l' false x l1 q1) (h2 : GotM ((n : Int) - (out.length : Int)) l1 q1 0 l2 q2) : InvC n below l q out l2 true := by
  refine ⟨fun h => (by cases h), h.bnd, h.len, fun vals t hp => ?_⟩
  obtain ⟨-, e2, e3⟩ := h.whole vals t hp
  obtain ⟨y, K, hK, hiK, hy, hr⟩ := runs_split (vals := vals) (i := out.length) (by rw [hp.len]; exact hi)
  rw [hr] at e3
  have hyb := hp.ok y (List.mem_of_getElem? (hy out.length (Nat.le_refl _) (by omega)))
  obtain ⟨rfl, e4, e5⟩ := h1.whole y (arNum K ++ arRuns (vals.drop (out.length + K)) ++ t) rfl (by rw [e3, List.append_assoc]) (by omega) (by omega)
  have := hp.len
  obtain ⟨e8, -, -⟩ := h2.whole K (arRuns (vals.drop (out.length + K)) ++ t) e5 (by rw [e4, List.append_assoc]) (by omega) (by omega)
  omega
noncomputable def badC (R : Nat) (w : World) : Nat := open Classical in if w.cell? ⟨R, 2, none⟩ = some (.bool true) then 0 else 1
theorem RdR.badC {B R I : Nat} {w : World} {all : List UInt8} {q : Bool} (h : RdR B w R all I q) : badC R w = if q then 0 else 1 := by
  obtain ⟨b, o, c, h, _⟩ := h
  unfold Go.Proofs.Ytjglmjdfndcmmaa.badC
  rw [h.c3.2.2]
  cases q <;> simp
def lenV : Value → Nat
  | .slice _ n _ => n
  | _ => 0
theorem OwnN.chg {w w' : World} {base : Nat} {v : Value} {l : List Nat} {S : Nat → Prop} (h : OwnN w base v l) (k : Chg S w w') (hS : ∀ b, base ≤ b → b < w.heap.size → ¬ S b) : OwnN w' base v l := ownW_chg h k hS
def RetC (B R n below : Nat) (all : List UInt8) (I : Nat) (q : Bool) (w : World) (e : Ending) (w' : World) : Prop := ∃ (v : Value) (out : List Nat) (I' : Nat) (q' : Bool), e = .returned v ∧ OwnN w' w.heap.size v out ∧ RdR B w' R all I' q' ∧ I ≤ I' ∧ GotC n below (all.drop I) q out (all.drop I') q' ∧ Chg (One R) w w'
-- WALK
end Go.Proofs.Ytjglmjdfndcmmaa

set_option linter.all false
namespace Go.Proofs.Ytjglmjdfndcmmaa
open Go.RowKit
def OpenRes (l : List UInt8) (x : List Ev) (k : Int) : Prop := (k = 0 ∧ logB x = true ∧ arPack x = l ∧ ∀ es, logB es = true → arPack es = l → x = es) ∨ (k = 3 ∧ x = [] ∧ ∀ es, logB es = true → arPack es ≠ l)
def SumOk (l : List UInt8) : Prop := l.drop (l.length - 4) = le4 (sumOf (l.take (l.length - 4)))
def OpenSaid (l : List UInt8) (x : List Ev) (k : Int) : Prop := (262144 < l.length ∧ x = [] ∧ k = 5) ∨ (l.length ≤ 262144 ∧ (l.length < 4 ∨ ¬ SumOk l) ∧ x = [] ∧ k = 14) ∨ (l.length ≤ 262144 ∧ 4 ≤ l.length ∧ SumOk l ∧ OpenRes l x k)
theorem OpenRes.unique {l : List UInt8} {x x' : List Ev} {k k' : Int} (h : OpenRes l x k) (h' : OpenRes l x' k') : x' = x ∧ k' = k := by
  rcases h with ⟨rfl, h1, h2, h3⟩ | ⟨rfl, rfl, h1⟩
  · rcases h' with ⟨rfl, g1, g2, g3⟩ | ⟨rfl, rfl, g1⟩
    · exact ⟨g3 x h1 h2, rfl⟩
    · exact absurd h2 (g1 x h1)
  · rcases h' with ⟨rfl, g1, g2, g3⟩ | ⟨rfl, rfl, g1⟩
    · exact absurd g2 (h1 x' g1)
    · exact ⟨rfl, rfl⟩
theorem OpenSaid.unique {l : List UInt8} {x x' : List Ev} {k k' : Int} (h : OpenSaid l x k) (h' : OpenSaid l x' k') : x' = x ∧ k' = k := by
  rcases h with ⟨h1, rfl, rfl⟩ | ⟨h1, h2, rfl, rfl⟩ | ⟨h1, h2, h3, h4⟩
  · rcases h' with ⟨g1, rfl, rfl⟩ | ⟨g1, g2, rfl, rfl⟩ | ⟨g1, g2, g3, g4⟩
    · exact ⟨rfl, rfl⟩
    · omega
    · omega
  · rcases h' with ⟨g1, rfl, rfl⟩ | ⟨g1, g2, rfl, rfl⟩ | ⟨g1, g2, g3, g4⟩
    · omega
    · exact ⟨rfl, rfl⟩
    · rcases h2 with h2 | h2
      · omega
      · exact absurd g3 h2
  · rcases h' with ⟨g1, rfl, rfl⟩ | ⟨g1, g2, rfl, rfl⟩ | ⟨g1, g2, g3, g4⟩
    · omega
    · rcases g2 with g2 | g2
      · omega
      · exact absurd h3 g2
    · exact h4.unique g4
theorem arPack_body {es : List Ev} {l : List UInt8} (h : arPack es = l) : l.take (l.length - 4) = arBody es := by
  subst h
  unfold arPack
  rw [List.length_append, show (le4 (sumOf (arBody es))).length = 4 from rfl, Nat.add_sub_cancel, List.take_left]
theorem arPack_sum (es : List Ev) : SumOk (arPack es) := by
  unfold SumOk
  rw [arPack_body rfl]
  unfold arPack
  rw [List.length_append, show (le4 (sumOf (arBody es))).length = 4 from rfl, Nat.add_sub_cancel, List.drop_left]
def bodyRest (es : List Ev) (k : Nat) : List UInt8 := ((List.range (nParts es)).drop k).flatMap fun i => arBlock (part es i)
theorem body_start (es : List Ev) : arBody es = arNum es.length ++ bodyRest es 0 := rfl
theorem body_next {es : List Ev} {k : Nat} (hk : k < nParts es) : bodyRest es k = arBlock (part es k) ++ bodyRest es (k + 1) := by
  unfold bodyRest
  exact flat_drop (fun i => arBlock (part es i)) (l := List.range (nParts es)) (by rw [List.getElem?_range hk])
theorem part_count (es : List Ev) (k : Nat) : (part es k).length = min 100 (es.length - 100 * k) := by
  unfold part; rw [List.length_take, List.length_drop]
theorem part_get (es : List Ev) {k m : Nat} (hm : m < 100) : (part es k)[m]? = es[100 * k + m]? := by
  unfold part; rw [List.getElem?_take, if_pos hm, List.getElem?_drop]
def zeroEv : Ev := ⟨⟨#[]⟩, ⟨#[]⟩, ⟨#[]⟩, 0, 0, []⟩
structure PartsAt (body : List UInt8) (N0 k : Nat) (ev' : Nat → Ev) (l' : List UInt8) (q' : Bool) : Prop where
  zero : ∀ i, 100 * k ≤ i → ev' i = zeroEv
  whole : ∀ es, logB es = true → body = arBody es → q' = false ∧ N0 = es.length ∧ l' = bodyRest es k ∧ ∀ i e, i < 100 * k → es[i]? = some e → ev' i = e
theorem PartsAt.start {body l' : List UInt8} {N0 : Nat} {q' : Bool} (h : GotN 2000 body false N0 l' q') : PartsAt body N0 0 (fun _ => zeroEv) l' q' := by
  refine ⟨fun _ _ => rfl, fun es hv hb => ?_⟩
  have hl := (log_parts hv).1
  obtain ⟨e1, e2, e3⟩ := h.whole es.length (bodyRest es 0) rfl (by rw [hb, body_start]) hl (by omega)
  exact ⟨e3, e1, e2, fun i e hi => absurd hi (by omega)⟩
theorem PartsAt.step {body l' l2 : List UInt8} {N0 k len : Nat} {ev' ev2 : Nat → Ev} {q' q2 : Bool} (h : PartsAt body N0 k ev' l' q') (hk : 100 * k < N0) (hlen : len = min 100 (N0 - 100 * k)) (hg : GotB (100 * k) len ev' l' q' ev2 l2 q2) : PartsAt body N0 (k + 1) ev2 l2 q2 := by
  refine ⟨fun i hi => (hg.out i (.inr (by omega))).trans (h.zero i (by omega)), fun es hv hb => ?_⟩
  obtain ⟨e1, e2, e3, e4⟩ := h.whole es hv hb
  obtain ⟨hl, hok⟩ := log_parts hv
  have hkp : k < nParts es := by unfold nParts; omega
  rw [body_next hkp] at e3
  obtain ⟨e5, e6, e7⟩ := hg.whole (part es k) (bodyRest es (k + 1)) ⟨e1, by rw [part_count, hlen, e2], fun e he => hok e (part_mem he), (log_time hv).sublist ((List.take_sublist _ _).trans (List.drop_sublist _ _)), e3⟩
  refine ⟨e5, e2, e6, fun i e hi he => ?_⟩
  rcases Nat.lt_or_ge i (100 * k) with h1 | h1
  · rw [hg.out i (.inl h1)]; exact e4 i e h1 he
  · obtain ⟨m, rfl⟩ : ∃ m, i = 100 * k + m := ⟨i - 100 * k, by omega⟩
    exact e7 m e (by rw [part_get es (by omega)]; exact he)
theorem PartsAt.done {body l' : List UInt8} {N0 k : Nat} {ev' : Nat → Ev} {q' : Bool} (h : PartsAt body N0 k ev' l' q') (hk : N0 ≤ 100 * k) : ∀ es, logB es = true → body = arBody es → q' = false ∧ (List.range N0).map ev' = es := by
  intro es hv hb
  obtain ⟨e1, e2, -, e4⟩ := h.whole es hv hb
  refine ⟨e1, ?_⟩
  apply List.ext_getElem
  · simpa using e2
  · intro i h1 h2
    rw [List.getElem_map, List.getElem_range]
    exact e4 i es[i] (by omega) (List.getElem?_eq_getElem h2)
theorem make_evs (N : Nat) (hN : N ≤ 2000) : ∃ cs : Array Value, (∀ w, (Instr.makeSlice 22 (.int .i64 (N : Int)) (.int .i64 (N : Int))).run Try.prog w = .ok (.slice (some ⟨w.heap.size, 0, none⟩) N N) (w.alloc (.cells cs 57))) ∧ cs.size = N * 6 ∧
    ∀ j, j < N → ∀ k u, (evCells zeroEv (.slice none 0 0))[k]? = some u → cs[j * 6 + k]? = some u := by
  obtain ⟨i, hi, hz, hs, hb⟩ := info_parts evInfo
  refine ⟨madeCells (Value.agg #[.string ⟨#[]⟩, .string ⟨#[]⟩, .string ⟨#[]⟩, .int .i64 0, .int .i64 0, .slice none 0 0]).cells (N * 6), fun w => ?_, size_madeCells _ _, fun j hj k u hu => ?_⟩
  · have := run_make (P := Try.prog) w 22 57 i _ Try.underlying22 hi hz .i64 .i64 (N : Int) (N : Int) (by omega) (by omega) (by rw [hb]; omega) (by omega)
    rw [Int.toNat_natCast, hs] at this
    exact this
  · have hk := evCells_lt hu
    unfold madeCells
    rw [Array.getElem?_map, Array.getElem?_range, if_pos (by omega)]
    show some _ = _
    rw [← hu]
    match k, hk with
    | 0, _ => simp [evCells, zeroEv, Value.cells, Nat.add_mod]
    | 1, _ => simp [evCells, zeroEv, Value.cells, Nat.add_mod]
    | 2, _ => simp [evCells, zeroEv, Value.cells, Nat.add_mod]
    | 3, _ => simp [evCells, zeroEv, Value.cells, Nat.add_mod]
    | 4, _ => simp [evCells, zeroEv, Value.cells, Nat.add_mod]
    | 5, _ => simp [evCells, zeroEv, Value.cells, Nat.add_mod]
    | k + 6, h => omega
theorem EvF.made {w : World} {cs : Array Value} {N : Nat} {D : Nat → Prop} (hs : cs.size = N * 6) (hc : ∀ j, j < N → ∀ k u, (evCells zeroEv (.slice none 0 0))[k]? = some u → cs[j * 6 + k]? = some u) : EvF (w.alloc (.cells cs 57)) w.heap.size N (fun _ => zeroEv) D :=
  ⟨cs, fun _ => .slice none 0 0, Blk.new _ _ _, Nat.le_of_eq hs.symm, fun j hj => ⟨⟨Nat.zero_le _, Nat.zero_le _, Nat.zero_le _, fitI (by show _ ≤ (0 : Int) ∧ (0 : Int) ≤ _; omega), fitI (by show _ ≤ (0 : Int) ∧ (0 : Int) ≤ _; omega)⟩, ⟨Sl.none_, fun _ => rfl⟩, hc j hj⟩⟩
end Go.Proofs.Ytjglmjdfndcmmaa

set_option linter.all false
namespace Go.Proofs.Ytjglmjdfndcmmaa
open Go.RowKit
structure WordsR (len : Nat) (l : List UInt8) (q : Bool) (cnt i : Nat) (out : List Bs) (l' : List UInt8) (q' : Bool) : Prop where
  up : q' = false → q = false
  count : out.length = i
  fit : ∀ s ∈ out, s.length ≤ 1000
  whole : ∀ es t, PremB len l q es t → q' = false ∧ cnt = (words es).length ∧ out = (words es).take i ∧ l' = ((words es).drop i).flatMap arText ++ tail1 es t
theorem WordsR.start {len cnt : Nat} {l l' : List UInt8} {q q' : Bool} (hlen : len ≤ 100) (h : GotM 300 l q cnt l' q') : WordsR len l q cnt 0 [] l' q' := by
  refine ⟨h.up, rfl, by simp, fun es t hp => ?_⟩
  have h1 := words_len es
  have h2 := hp.len
  obtain ⟨e1, e2, e3⟩ := h.whole _ _ hp.q (by rw [hp.code, block_tail]) (by omega) (by omega)
  exact ⟨e3, e1, by simp, e2⟩
theorem WordsR.step {len cnt i : Nat} {l l' l2 : List UInt8} {q q2 : Bool} {out : List Bs} {s : ByteArray} (h : WordsR len l q cnt i out l' false) (hi : i < cnt) (h2 : GotU l' false s l2 q2) : WordsR len l q cnt (i + 1) (out ++ [s.data.toList]) l2 q2 := by
  refine ⟨fun _ => h.up rfl, by rw [List.length_append, h.count]; rfl, fun x hx => ?_, fun es t hp => ?_⟩
  · rcases List.mem_append.1 hx with hx | hx
    · exact h.fit x hx
    · rw [List.mem_singleton.1 hx, size_eq]; exact h2.size
  · obtain ⟨-, e1, e2, e3⟩ := h.whole es t hp
    have hiw : (words es)[i]? = some (words es)[i] := List.getElem?_eq_getElem (by omega)
    rw [flat_drop arText hiw, List.append_assoc] at e3
    have hsz := words_size hp.ok _ (List.mem_of_getElem? hiw)
    obtain ⟨e4, e5, e6⟩ := h2.whole _ _ rfl e3 (by omega)
    exact ⟨e6, e1, by rw [take_next hiw, e2, e4], e5⟩
theorem WordsR.done {len cnt i : Nat} {l l' : List UInt8} {q q' : Bool} {out : List Bs} (h : WordsR len l q cnt i out l' q') (hi : i = cnt ∨ q' = true) : ∀ es t, PremB len l q es t → q' = false ∧ out = words es ∧ l' = tail1 es t := by
  intro es t hp
  obtain ⟨e1, e2, e3, e4⟩ := h.whole es t hp
  rcases hi with rfl | hi
  · rw [List.drop_eq_nil_of_le (by omega)] at e4
    exact ⟨e1, by rw [e3, List.take_of_length_le (by omega)], by simpa using e4⟩
  · rw [hi] at e1; cases e1
structure ColsR (len : Nat) (l : List UInt8) (q : Bool) (ws : List Bs) (a b c d : List Nat) (l' : List UInt8) (q' : Bool) : Prop where
  up : q' = false → q = false
  fit : ∀ s ∈ ws, s.length ≤ 1000
  ba : ∀ x ∈ a, x < ws.length
  bb : ∀ x ∈ b, x < ws.length
  bc : ∀ x ∈ c, x < ws.length
  bd : ∀ x ∈ d, x < 7
  full : q' = false → a.length = len ∧ b.length = len ∧ c.length = len ∧ d.length = len
  whole : ∀ es t, PremB len l q es t → q' = false ∧ l' = tail5 es t ∧ ws = words es ∧ a = colV 0 es ∧ b = colV 1 es ∧ c = colV 2 es ∧ d = es.map fun e => e.life.toNat
def madeEv (ws : List Bs) (x y z d : Nat) (T : Int) : Ev := ⟨wordAt (ws.map mkS) x, wordAt (ws.map mkS) y, wordAt (ws.map mkS) z, (d : Int), T, []⟩
structure TimeR (len : Nat) (l : List UInt8) (q : Bool) (j T : Nat) (xs : List Ev) (l' : List UInt8) (q' : Bool) : Prop where
  up : q' = false → q = false
  count : xs.length = j
  fit : ∀ e ∈ xs, FitEv e ∧ e.data = []
  whole : ∀ es t, PremB len l q es t → q' = false ∧ l' = arTimes T (es.drop j) ++ (es.flatMap arData ++ t) ∧ TimeI es j T ∧ ∀ i e, i < j → es[i]? = some e → xs[i]? = some (fill5 zeroEv e)
theorem ColsR.start {len : Nat} {l l' : List UInt8} {q q' : Bool} {ws : List Bs} {a b c d : List Nat} (h : ColsR len l q ws a b c d l' q') : TimeR len l q 0 0 [] l' q' :=
  ⟨h.up, rfl, by simp, fun es t hp => by
    obtain ⟨e1, e2, -⟩ := h.whole es t hp
    exact ⟨e1, e2, ⟨fun _ => rfl, fun j hj => absurd hj (by omega)⟩, fun i e hi => absurd hi (by omega)⟩⟩
theorem TimeR.step {len j T n x y z d0 : Nat} {l l' l2 l0 : List UInt8} {q q' q2 q0 : Bool} {ws : List Bs} {a b c d : List Nat} {xs : List Ev} (h : TimeR len l q j T xs l' q') (hc : ColsR len l q ws a b c d l0 q0) (hj : j < len) (hT : T + n < 9223372036854775808) (hx : a[j]? = some x) (hy : b[j]? = some y) (hz : c[j]? = some z) (hd : d[j]? = some d0) (hn : GotM 1099511627776 l' q' n l2 q2) :
    TimeR len l q (j + 1) (T + n) (xs ++ [madeEv ws x y z d0 ((T + n : Nat) : Int)]) l2 q2 := by
  refine ⟨fun h2 => h.up (hn.up h2), by rw [List.length_append, h.count]; rfl, fun e he => ?_, fun es t hp => ?_⟩
  · rcases List.mem_append.1 he with he | he
    · exact h.fit e he
    · rw [List.mem_singleton.1 he]
      have hw : ∀ k, (wordAt (ws.map mkS) k).size ≤ maxLen := fun k => by
        unfold wordAt
        rw [List.getD_eq_getElem?_getD, List.getElem?_map]
        cases h : ws[k]? with
        | none => exact Nat.zero_le _
        | some s =>
          show (mkS s).size ≤ maxLen
          rw [mkS_size]
          have := hc.fit s (List.mem_of_getElem? h)
          unfold maxLen; omega
      have hd7 := hc.bd d0 (List.mem_of_getElem? hd)
      exact ⟨⟨hw _, hw _, hw _, fitI (by show _ ≤ (d0 : Int) ∧ (d0 : Int) ≤ _; omega), fitI (by show _ ≤ ((T + n : Nat) : Int) ∧ ((T + n : Nat) : Int) ≤ _; omega)⟩, rfl⟩
  · obtain ⟨e1, e2, e3, e4⟩ := h.whole es t hp
    obtain ⟨-, -, rfl, rfl, rfl, rfl, rfl⟩ := hc.whole es t hp
    have hlt : j < es.length := by rw [hp.len]; exact hj
    have he : es[j]? = some es[j] := List.getElem?_eq_getElem hlt
    generalize es[j] = e at he
    have hm := List.mem_of_getElem? he
    have hto := (hp.ok e hm).time
    have hlo := (hp.ok e hm).life
    have hTe : (T : Int) ≤ e.time := by
      rcases Nat.eq_zero_or_pos j with h0 | h0
      · have := e3.first h0; omega
      · have hjj : es[j - 1]? = some es[j - 1] := List.getElem?_eq_getElem (by omega)
        have h1 := e3.last (j - 1) (by omega) _ hjj
        have h2 := List.pairwise_iff_getElem.1 hp.mono (j - 1) j (by omega) hlt (by omega)
        rw [h1]
        have h3 : es[j] = e := by rw [List.getElem?_eq_getElem hlt] at he; injection he
        rw [h3] at h2
        exact h2
    rw [time_step he, List.append_assoc] at e2
    obtain ⟨rfl, e6, e7⟩ := hn.whole _ _ e1 e2 (by omega) (by omega)
    have hT2 : ((T + (e.time - T).toNat : Nat) : Int) = e.time := by omega
    refine ⟨e7, by rw [hT2]; exact e6, ⟨fun h => absurd h (by omega), fun i hi e' he' => ?_⟩, fun i e' hi he' => ?_⟩
    · obtain rfl : i = j := by omega
      rw [he] at he'
      injection he' with he'
      rw [← he', hT2]
    · by_cases hij : i = j
      · subst hij
        rw [he] at he'
        injection he' with he'
        subst he'
        rw [List.getElem?_append_right (by rw [h.count]; exact Nat.le_refl _), h.count, Nat.sub_self]
        unfold colV at hx hy hz
        rw [List.getElem?_map, he] at hx hy hz hd
        injection hx with hx; injection hy with hy; injection hz with hz; injection hd with hd
        simp only [if_true, if_false, Nat.one_ne_zero, show ¬ (2 : Nat) = 0 by omega, show ¬ (2 : Nat) = 1 by omega] at hx hy hz
        have w0 := atW_at (word_mem3 hm 0)
        have w1 := atW_at (word_mem3 hm 1)
        have w2 := atW_at (word_mem3 hm 2)
        simp only [if_true, if_false, Nat.one_ne_zero, show ¬ (2 : Nat) = 0 by omega, show ¬ (2 : Nat) = 1 by omega] at w0 w1 w2
        show some (madeEv (words es) x y z d0 _) = _
        unfold madeEv fill5 fill4 zeroEv
        rw [← hx, ← hy, ← hz, w0, w1, w2, hT2, ← hd]
        congr 2
        show ((e.life.toNat : Nat) : Int) = e.life
        omega
      · rw [List.getElem?_append_left (by rw [h.count]; omega)]
        exact e4 i e' (by omega) he'
theorem TimeR.done {len j T : Nat} {l l' : List UInt8} {q q' : Bool} {xs : List Ev} (h : TimeR len l q j T xs l' q') (hj : j = len ∨ q' = true) (hjl : j ≤ len) : DataAt 0 len (fun _ => zeroEv) l q 0 (fun i => xs.getD i zeroEv) l' q' := by
  refine ⟨h.up, fun i _ hi => ?_, fun i hi => ?_, fun es t hp => ?_⟩
  · rw [Nat.zero_add, List.getD_eq_getElem?_getD]
    cases hx : xs[i]? with
    | none => rfl
    | some e => exact (h.fit e (List.mem_of_getElem? hx)).2
  · rcases hi with hi | hi
    · omega
    · rw [List.getD_eq_getElem?_getD, List.getElem?_eq_none (by rw [h.count]; omega)]; rfl
  · obtain ⟨e1, e2, -, e4⟩ := h.whole es t hp
    rcases hj with rfl | hj
    · rw [List.drop_eq_nil_of_le (by rw [hp.len]; exact Nat.le_refl _)] at e2
      refine ⟨e1, by simpa [arTimes] using e2, fun i e hi => absurd hi (by omega), fun i e _ he => ?_⟩
      rw [Nat.zero_add, List.getD_eq_getElem?_getD, e4 i e (by have := (List.getElem?_eq_some_iff.1 he).1; rw [hp.len] at this; exact this) he]; rfl
    · rw [hj] at e1; cases e1
structure GotBR (len : Nat) (l : List UInt8) (q : Bool) (xs : List Ev) (l' : List UInt8) (q' : Bool) : Prop where
  up : q' = false → q = false
  count : xs.length ≤ len
  whole : ∀ es t, PremB len l q es t → q' = false ∧ xs = es ∧ l' = t
def evC (e : Ev) : List Value := evCells e (.slice none 0 0)
abbrev OwnEvs (w : World) (base : Nat) (v : Value) (xs : List Ev) : Prop := OwnW 6 evC w base 57 v xs
theorem appEvs : AppInfo Try.prog 22 57 6 := AppInfo.mk' (z := .agg #[.string ⟨#[]⟩, .string ⟨#[]⟩, .string ⟨#[]⟩, .int .i64 0, .int .i64 0, .slice none 0 0]) (bytes := 88) Try.underlying22 (by kernel_rfl) (by decide) rfl (by decide)
theorem OwnEvs.isSlice {w : World} {base : Nat} {v : Value} {l : List Ev} (h : OwnEvs w base v l) : ∃ A c, v = .slice A l.length c := by
  rcases h.2 with ⟨rfl, h0⟩ | ⟨g, cap, cur, rfl, _⟩
  · exact ⟨none, 0, by rw [h0]⟩
  · exact ⟨some ⟨g, 0, none⟩, cap, rfl⟩
end Go.Proofs.Ytjglmjdfndcmmaa

set_option linter.all false
namespace Go.Proofs.Ytjglmjdfndcmmaa
def unlisted (listed : Array Bool) : Nat := (listed.toList.filter (fun b => !b)).length
def Act.slot (a : Act) (s : Nat) : Value := a.tmps.getD s undef
def updT (σ : Nat → Value) (d : Option Tmp) (v : Value) : Nat → Value := match d with | some d => fun s => if s = d then v else σ s | none => σ
theorem slot_put {a : Act} {d : Option Tmp} {v : Value} (h : ∀ k, d = some k → k < a.tmps.size) : Act.slot (a.put d v) = updT (Act.slot a) d v := by
  cases d with
  | none => rfl
  | some d =>
    funext s
    have hd := h d rfl
    simp only [Act.slot, Act.put, updT, Array.getD_eq_getD_getElem?, Array.getElem?_setIfInBounds]
    by_cases hs : s = d
    · subst hs; simp [hd]
    · rw [if_neg (fun e => hs e.symm), if_neg hs]
theorem size_put (a : Act) (d : Option Tmp) (v : Value) : (a.put d v).tmps.size = a.tmps.size := by cases d <;> simp [Act.put]
theorem defers_put (a : Act) (d : Option Tmp) (v : Value) : (a.put d v).defers = a.defers := by cases d <;> rfl
structure Kin (l : List Oper) (a0 a : Act) : Prop where
  size : a.tmps.size = a0.tmps.size
  defers : a.defers = a0.defers
  slots : ∀ s, (∀ o ∈ l, o.dst ≠ some s) → Act.slot a s = Act.slot a0 s
theorem Kin.refl (l : List Oper) (a : Act) : Kin l a a := ⟨rfl, rfl, fun _ _ => rfl⟩
theorem Kin.put {l : List Oper} {a0 a : Act} (h : Kin l a0 a) (hd : ∀ o ∈ l, ∀ k, o.dst = some k → k < a0.tmps.size) {o : Oper} (ho : o ∈ l) (v : Value) : Kin l a0 (a.put o.dst v) ∧ Act.slot (a.put o.dst v) = updT (Act.slot a) o.dst v := by
  have e := slot_put (a := a) (d := o.dst) (v := v) (fun k hk => by rw [h.size]; exact hd o ho k hk)
  refine ⟨⟨(size_put _ _ _).trans h.size, (defers_put _ _ _).trans h.defers, fun s hs => ?_⟩, e⟩
  rw [e, ← h.slots s hs]
  have := hs o ho
  cases hk : o.dst with
  | none => rfl
  | some d =>
    simp only [updT]
    rw [if_neg]
    intro e'
    subst e'
    exact this hk
def Up (listed : Array Bool) (j : Nat) : Prop := listed.getD j false = true
structure Shut (l : List Oper) (listed : Array Bool) : Prop where
  size : listed.size = l.length
  closed : ∀ j oj, l[j]? = some oj → Up listed j → ∀ e ∈ oj.after, Region.binds .any e = true → Up listed e.on
theorem Shut.start (l : List Oper) : Shut l (Array.replicate l.length false) :=
  ⟨by simp, fun j oj _ hl => by unfold Up at hl; rw [getD_replicate_false] at hl; cases hl⟩
theorem Shut.up {l : List Oper} {listed : Array Bool} {j i : Nat} (h : Shut l listed) (hj : Up listed j) (hw : Region.waitsFor .any l.toArray j i = true) : Up listed i := by
  obtain ⟨oj, hoj, e, he, hb, rfl⟩ := Region.waitsFor_spec hw
  exact h.closed j oj (by simpa using hoj) hj e he hb
theorem Shut.set {l : List Oper} {listed : Array Bool} {i : Nat} (h : Shut l listed) (hi : i ∈ Region.ready .any l.toArray listed) : Shut l (listed.setIfInBounds i true) := by
  obtain ⟨_, oi, hoi, hall⟩ := mem_ready.1 hi
  refine ⟨by simp [h.size], fun j oj hj hl e he hb => ?_⟩
  unfold Up at hl ⊢
  by_cases hij : i = j
  · subst hij
    have : oj = oi := Option.some.inj ((show l.toArray[i]? = some oj by simpa using hj).symm.trans hoi)
    subst this
    exact getD_set_true (hall e he hb)
  · rw [getD_set_ne false hij] at hl
    exact getD_set_true (h.closed j oj hj hl e he hb)
def Steps (P : Program) (l : List Oper) (Q : Exit → Act → World → Prop) (a0 : Act) (K : Array Bool → (Nat → Value) → World → Prop) : Nat → List Oper → Prop
  | _, [] => True
  | i, o :: rest => (∀ listed (a : Act) w, Shut l listed → i ∈ Region.ready .any l.toArray listed → Kin l a0 a → K listed (Act.slot a) w →
      o.wp P a w (fun a' w' => ∃ v, a' = a.put o.dst v ∧ K (listed.setIfInBounds i true) (updT (Act.slot a) o.dst v) w') Q) ∧ Steps P l Q a0 K (i + 1) rest
theorem Steps.at_ {P : Program} {l : List Oper} {Q : Exit → Act → World → Prop} {a0 : Act} {K : Array Bool → (Nat → Value) → World → Prop} : ∀ (m : List Oper) (k i : Nat) (o : Oper), Steps P l Q a0 K k m → m[i]? = some o →
    ∀ listed (a : Act) w, Shut l listed → (k + i) ∈ Region.ready .any l.toArray listed → Kin l a0 a → K listed (Act.slot a) w →
      o.wp P a w (fun a' w' => ∃ v, a' = a.put o.dst v ∧ K (listed.setIfInBounds (k + i) true) (updT (Act.slot a) o.dst v) w') Q := by
  intro m
  induction m with
  | nil => intro k i o _ h; simp at h
  | cons x m ih =>
    intro k i o hs h
    cases i with
    | zero => injection h with h; subst h; exact hs.1
    | succ i =>
      have := ih (k + 1) i o hs.2 (by simpa using h)
      rwa [show k + 1 + i = k + (i + 1) from by omega] at this
def dstsB (l : List Oper) (n : Nat) : Bool := l.all fun o => o.guard.isNone && match o.dst with | some k => decide (k < n) | none => true
end Go.Proofs.Ytjglmjdfndcmmaa

set_option linter.all false
namespace Go.Proofs.Ytjglmjdfndcmmaa
def TailPost (P : Program) (l : List Oper) (n : Nat) (Q : Exit → Act → World → Prop) : Exit → Act → World → Prop
  | .normal, a, w => wpList P l.toArray Q (l.drop n) a w
  | e, a, w => Q e a w
def earlyB (l : List Oper) : Bool := (List.range l.length).all fun j => match l[j]? with
  | some o => o.guard.isNone && o.after.all fun e => !Region.binds .any e || decide (e.on < j)
  | none => true
def tailB (l : List Oper) (n : Nat) : Bool := earlyB l && decide (n < l.length) && Region.sinkB .any l.toArray n && Region.chainB .any l.toArray n && Region.seqB .any l.toArray (l.length - n) n (Array.replicate n true ++ Array.replicate (l.length - n) false)
section
variable {P : Program} {l : List Oper} {n : Nat} {Q : Exit → Act → World → Prop}
end
end Go.Proofs.Ytjglmjdfndcmmaa

set_option linter.all false
namespace Go.Proofs.Ytjglmjdfndcmmaa
open Go.RowKit
def De (lo L g : Nat) : Nat → Prop := fun b => lo ≤ b ∧ b < L ∧ b ≠ g
def RetBR (B R len : Nat) (all : List UInt8) (I : Nat) (q : Bool) (w : World) (e : Ending) (w' : World) : Prop := ∃ (v : Value) (xs : List Ev) (I' : Nat) (q' : Bool), e = .returned v ∧ SlEv (fun b => w.heap.size ≤ b ∧ b < w'.heap.size) w' v xs ∧ RdR B w' R all I' q' ∧ I ≤ I' ∧ GotBR len (all.drop I) q xs (all.drop I') q' ∧ Chg (One R) w w'
theorem OwnEvs.slD {w : World} {base : Nat} {D : Nat → Prop} {v : Value} {xs : List Ev} (h : OwnEvs w base v xs) (hf : ∀ e ∈ xs, FitEv e ∧ e.data = []) (hD : ∀ b, base ≤ b → b < w.heap.size → D b) : SlEv D w v xs :=
  Sl.of_own h rfl (fun g hg => by have := World.ownsRow.lt h g hg; exact hD g this.1 this.2) fun i x hx => ⟨evC x, rfl, fun j u hu => by
    rw [flat_get (size := 6) (fun _ => rfl) xs i j x hx (List.getElem?_eq_some_iff.1 hu).1]; exact hu, .slice none 0 0, rfl, (hf x (List.mem_of_getElem? hx)).1, by rw [(hf x (List.mem_of_getElem? hx)).2]; exact Sl.none_⟩
theorem OwnS.form {w : World} {base n c : Nat} {A : Option Addr} {ws : List Bs} (h : OwnS w base (.slice A n c) ws) (hn : 0 < ws.length) : ∃ g, A = some ⟨g, 0, none⟩ ∧ base ≤ g ∧ g < w.heap.size := by
  have hl := World.ownsRow.lt h
  rcases h.2 with ⟨_, h0⟩ | ⟨g, cap, cur, e, hb, hg, _⟩
  · omega
  · injection e with e1 _ _
    subst e1
    exact ⟨g, rfl, hb, (hl g rfl).2⟩
theorem OwnN.form {w : World} {base n c : Nat} {A : Option Addr} {l : List Nat} (h : OwnN w base (.slice A n c) l) (hn : 0 < l.length) : ∃ g, A = some ⟨g, 0, none⟩ := by
  rcases h.2 with ⟨_, h0⟩ | ⟨g, cap, cur, e, hb, hg, _⟩
  · omega
  · injection e with e1 _ _
    subst e1
    exact ⟨g, rfl⟩
theorem De.le {lo L L' g : Nat} (h : L ≤ L') : ∀ b, De lo L g b → De lo L' g b := fun b hb => ⟨hb.1, Nat.lt_of_lt_of_le hb.2.1 h, hb.2.2⟩
theorem De.one {lo L g R : Nat} {w : World} (hs : L ≤ w.heap.size) (hR : R < lo) : ∀ b, De lo L g b → b < w.heap.size ∧ ¬ One R b := fun b hb => ⟨Nat.lt_of_lt_of_le hb.2.1 hs, ne_one hR hb.1⟩
end Go.Proofs.Ytjglmjdfndcmmaa

set_option linter.all false
namespace Go.Proofs.Ytjglmjdfndcmmaa
open Go.RowKit
structure PartsR (body : List UInt8) (N0 k : Nat) (xs : List Ev) (l' : List UInt8) (q' : Bool) : Prop where
  count : xs.length ≤ 100 * k
  whole : ∀ es, logB es = true → body = arBody es → q' = false ∧ N0 = es.length ∧ l' = bodyRest es k ∧ xs = es.take (100 * k)
theorem PartsR.start {body l' : List UInt8} {N0 : Nat} {q' : Bool} (h : GotM 2000 body false N0 l' q') : PartsR body N0 0 [] l' q' := by
  refine ⟨Nat.zero_le _, fun es hv hb => ?_⟩
  have hl := (log_parts hv).1
  obtain ⟨e1, e2, e3⟩ := h.whole es.length (bodyRest es 0) rfl (by rw [hb, body_start]) (by omega) (by omega)
  exact ⟨e3, e1, e2, by simp⟩
theorem PartsR.step {body l' l2 : List UInt8} {N0 k len : Nat} {xs ys : List Ev} {q' q2 : Bool} (h : PartsR body N0 k xs l' q') (hk : 100 * k < N0) (hlen : len = min 100 (N0 - 100 * k)) (hg : GotBR len l' q' ys l2 q2) : PartsR body N0 (k + 1) (xs ++ ys) l2 q2 := by
  refine ⟨by rw [List.length_append]; have := h.count; have := hg.count; omega, fun es hv hb => ?_⟩
  obtain ⟨e1, e2, e3, e4⟩ := h.whole es hv hb
  obtain ⟨hl, hok⟩ := log_parts hv
  have hkp : k < nParts es := by unfold nParts; omega
  rw [body_next hkp] at e3
  obtain ⟨e5, e6, e7⟩ := hg.whole (part es k) (bodyRest es (k + 1)) ⟨e1, by rw [part_count, hlen, e2], fun e he => hok e (part_mem he), (log_time hv).sublist ((List.take_sublist _ _).trans (List.drop_sublist _ _)), e3⟩
  refine ⟨e5, e2, e7, ?_⟩
  rw [e4, e6]
  unfold part
  rw [show 100 * (k + 1) = 100 * k + 100 by omega, List.take_add]
theorem PartsR.done {body l' : List UInt8} {N0 k : Nat} {xs : List Ev} {q' : Bool} (h : PartsR body N0 k xs l' q') (hk : N0 ≤ 100 * k) : ∀ es, logB es = true → body = arBody es → q' = false ∧ l' = [] ∧ xs = es := by
  intro es hv hb
  obtain ⟨e1, e2, e3, e4⟩ := h.whole es hv hb
  refine ⟨e1, ?_, by rw [e4, List.take_of_length_le (by omega)]⟩
  rw [e3]
  unfold bodyRest
  rw [List.drop_eq_nil_of_le (by rw [List.length_range]; unfold nParts; omega)]
  rfl
def pairC (p : Ev × Value) : List Value := evCells p.1 p.2
def oneV (v : Value) : Prop := v.oneCell' = true
def RPair : ElemR (Ev × Value) := fun _ _ p cs => cs = pairC p
theorem RPair.kept : ElemR.Kept RPair := fun _ _ _ _ _ _ _ _ h => h
theorem SlFl.one {D : Nat → Prop} {w : World} {v : Value} {fs : List Fld} (h : SlFl D w v fs) : v.oneCell' = true := by
  obtain ⟨A, c, rfl, _⟩ := h; rfl
theorem pairC_one {D : Nat → Prop} {w : World} {p : Ev × Value} (h : SlFl D w p.2 p.1.data) : ∀ u ∈ pairC p, u.oneCell' = true := by
  intro u hu
  simp [pairC, evCells] at hu
  rcases hu with rfl | rfl | rfl | rfl | rfl | rfl <;> first | rfl | exact SlFl.one h
theorem SlEv.pairs {D : Nat → Prop} {w : World} {v : Value} {xs : List Ev} (h : SlEv D w v xs) : ∃ ps : List {p : Ev × Value // ∀ u ∈ pairC p, u.oneCell' = true}, ps.map (fun p => p.val.1) = xs ∧ Sl 6 (fun _ _ p cs => cs = pairC p.val) D w v ps ∧ ∀ p ∈ ps, FitEv p.val.1 ∧ SlFl D w p.val.2 p.val.1.data := by
  obtain ⟨A, c, rfl, h1, h2, h3⟩ := h
  have hf : ∀ i : Fin xs.length, ∃ dv, ∃ b o, A = some ⟨b, o, none⟩ ∧ D b ∧ FitEv xs[i] ∧ SlFl D w dv xs[i].data ∧ ∀ j u, (evCells xs[i] dv)[j]? = some u → w.cell? ⟨b, o + i * 6 + j, none⟩ = some u := fun i => by
    obtain ⟨b, o, cs, hA, hD, hl, ⟨dv, rfl, f1, f2⟩, hc⟩ := h3 i xs[i] (List.getElem?_eq_getElem i.2)
    exact ⟨dv, b, o, hA, hD, f1, f2, hc⟩
  obtain ⟨f, hf⟩ := Classical.axiomOfChoice hf
  have hone : ∀ i : Fin xs.length, ∀ u ∈ pairC (xs[i], f i), u.oneCell' = true := fun i => by
    obtain ⟨_, _, _, _, _, f2, _⟩ := hf i
    exact pairC_one f2
  refine ⟨List.ofFn fun i => ⟨(xs[i], f i), hone i⟩, ?_, ⟨A, c, by rw [List.length_ofFn], by rw [List.length_ofFn]; exact h1, h2, fun i p hp => ?_⟩, fun p hp => ?_⟩
  · apply List.ext_getElem
    · simp
    · intro i h4 h5; simp
  · have hi : i < xs.length := by have := (List.getElem?_eq_some_iff.1 hp).1; simpa using this
    rw [List.getElem?_eq_getElem (by simpa using hi), List.getElem_ofFn] at hp
    injection hp with hp
    subst hp
    obtain ⟨b, o, hA, hD, _, _, hc⟩ := hf ⟨i, hi⟩
    exact ⟨b, o, _, hA, hD, rfl, rfl, hc⟩
  · obtain ⟨i, rfl⟩ := (List.mem_ofFn).1 hp
    obtain ⟨_, _, _, _, f1, f2, _⟩ := hf i
    exact ⟨f1, f2⟩
abbrev PairT := {p : Ev × Value // ∀ u ∈ pairC p, u.oneCell' = true}
def cellP (p : PairT) : List Value := pairC p.val
def OwnL (w : World) (base : Nat) (D : Nat → Prop) (v : Value) (xs : List Ev) : Prop := ∃ ps : List PairT, ps.map (fun p => p.val.1) = xs ∧ OwnW 6 cellP w base 57 v ps ∧ ∀ p ∈ ps, FitEv p.val.1 ∧ SlFl D w p.val.2 p.val.1.data
theorem OwnL.nil {w : World} {base : Nat} {D : Nat → Prop} : OwnL w base D (.slice none 0 0) [] := ⟨[], rfl, OwnW.nil, by simp⟩
theorem OwnL.sl {w : World} {base : Nat} {D D' : Nat → Prop} {v : Value} {xs : List Ev} (h : OwnL w base D v xs) (hD : ∀ b, D b → D' b) (hb : ∀ b, base ≤ b → b < w.heap.size → D' b) : SlEv D' w v xs := by
  obtain ⟨ps, rfl, h1, h2⟩ := h
  have h3 : Sl 6 (fun _ _ (p : PairT) cs => cs = pairC p.val) D' w v ps := Sl.of_own h1 rfl (fun g hg => by have := World.ownsRow.lt h1 g hg; exact hb g this.1 this.2) fun i x hx => ⟨cellP x, rfl, fun j u hu => by
    rw [flat_get (size := 6) (fun _ => rfl) ps i j x hx (List.getElem?_eq_some_iff.1 hu).1]; exact hu, rfl⟩
  obtain ⟨A, c, rfl, g1, g2, g3⟩ := h3
  refine ⟨A, c, by simp, by simpa using g1, g2, fun i x hx => ?_⟩
  rw [List.getElem?_map, Option.map_eq_some_iff] at hx
  obtain ⟨p, hp, rfl⟩ := hx
  obtain ⟨b, o, cs, hA, hD', hl, rfl, hc⟩ := g3 i p hp
  obtain ⟨f1, f2⟩ := h2 p (List.mem_of_getElem? hp)
  exact ⟨b, o, _, hA, hD', hl, ⟨_, rfl, f1, Sl.keep f2 RFld.kept hD (Same.refl _ _)⟩, hc⟩
theorem OwnL.chg {w w' : World} {base : Nat} {D D' : Nat → Prop} {v : Value} {xs : List Ev} {S : Nat → Prop} (h : OwnL w base D v xs) (k : Chg S w w') (hS : ∀ b, base ≤ b → b < w.heap.size → ¬ S b) (hD : ∀ b, D b → b < w.heap.size ∧ ¬ S b) (hDD : ∀ b, D b → D' b) : OwnL w' base D' v xs := by
  obtain ⟨ps, rfl, h1, h2⟩ := h
  exact ⟨ps, rfl, ownW_chg h1 k hS, fun p hp => ⟨(h2 p hp).1, Sl.keep (h2 p hp).2 RFld.kept hDD (fun b hb => k.block b (hD b hb).1 (hD b hb).2)⟩⟩
theorem OwnL.isSlice {w : World} {base : Nat} {D : Nat → Prop} {v : Value} {xs : List Ev} (h : OwnL w base D v xs) : ∃ A c, v = .slice A xs.length c := by
  obtain ⟨ps, rfl, h1, h2⟩ := h
  rw [List.length_map]
  rcases h1.2 with ⟨rfl, h0⟩ | ⟨g, cap, cur, rfl, _⟩
  · exact ⟨none, 0, by rw [h0]⟩
  · exact ⟨some ⟨g, 0, none⟩, cap, rfl⟩
def OwnG (w : World) (base : Nat) (v : Value) (xs : List Ev) : Prop := OwnL w base (fun b => base ≤ b ∧ b < w.heap.size ∧ v.ownBlock ≠ some b) v xs
theorem OwnG.nil {w : World} {base : Nat} : OwnG w base (.slice none 0 0) [] := OwnL.nil
theorem OwnG.sl {w : World} {base : Nat} {v : Value} {xs : List Ev} (h : OwnG w base v xs) : SlEv (fun b => base ≤ b ∧ b < w.heap.size) w v xs := OwnL.sl h (fun b hb => ⟨hb.1, hb.2.1⟩) (fun b h1 h2 => ⟨h1, h2⟩)
theorem OwnG.chg {w w' : World} {base : Nat} {v : Value} {xs : List Ev} {S : Nat → Prop} (h : OwnG w base v xs) (k : Chg S w w') (hS : ∀ b, base ≤ b → ¬ S b) : OwnG w' base v xs :=
  OwnL.chg h k (fun b h1 _ => hS b h1) (fun b hb => ⟨hb.2.1, hS b hb.1⟩) (fun b hb => ⟨hb.1, Nat.lt_of_lt_of_le hb.2.1 k.size, hb.2.2⟩)
theorem OwnG.isSlice {w : World} {base : Nat} {v : Value} {xs : List Ev} (h : OwnG w base v xs) : ∃ A c, v = .slice A xs.length c := OwnL.isSlice h
theorem OwnL.lt {w : World} {base : Nat} {D : Nat → Prop} {v : Value} {xs : List Ev} (h : OwnL w base D v xs) : ∀ g, v.ownBlock = some g → base ≤ g ∧ g < w.heap.size := by
  obtain ⟨ps, rfl, h1, h2⟩ := h
  exact World.ownsRow.lt h1
theorem wp_appendEvs {o : Oper} {a : Act} {K : Act → World → Prop} {Q : Exit → Act → World → Prop} (s x : Operand)
    (ho : o.op = .call { callee := .builtin .append, args := #[s, x], argTypes := #[22, 22] }) (w : World) {base : Nat} {E : Nat → Prop} {xs ys : List Ev}
    (v : Value) (hs : a.eval s = v) (hown : OwnG w base v xs) (u : Value) (hx : a.eval x = u) (hu : SlEv E w u ys) (hn : xs.length + ys.length < 10000000) (hbase : base ≤ w.heap.size)
    (hE : ∀ b, E b → base ≤ b ∧ b < w.heap.size ∧ v.ownBlock ≠ some b)
    (h : ∀ v' w', OwnG w' base v' (xs ++ ys) → Chg (fun b => base ≤ b) w w' → K (a.put o.dst v') w') : o.wp Try.prog a w K Q := by
  obtain ⟨ps, rfl, h1, h2⟩ := hown
  obtain ⟨qs, rfl, k1, k2⟩ := SlEv.pairs hu
  rw [List.length_map, List.length_map] at hn
  refine wp_appendAllW (fc := cellP) appEvs s x ho w (fun _ => rfl) ps v hs h1 u qs hx k1 (fun y c hc => hc) (fun y => y.property) hn hbase fun v' w' g1 g2 g3 => ?_
  have hC : Chg (fun b => base ≤ b ∧ v.ownBlock = some b) w w' := ⟨g2.os, g2.tape, g2.output, g2.size, fun i hi hn => g2.block i hi (fun e => hn ⟨(World.ownsRow.lt h1 i e.symm).1, e.symm⟩)⟩
  have hne : ∀ b, base ≤ b ∧ b < w.heap.size ∧ v.ownBlock ≠ some b → base ≤ b ∧ b < w'.heap.size ∧ v'.ownBlock ≠ some b := fun b hb => ⟨hb.1, Nat.lt_of_lt_of_le hb.2.1 hC.size, fun e => by
    rcases g3 with g3 | g3
    · exact hb.2.2 (g3 ▸ e)
    · rw [g3] at e; injection e with e; omega⟩
  refine h v' w' ⟨ps ++ qs, by rw [List.map_append], g1, fun p hp => ?_⟩ (hC.mono fun b _ hb => hb.1)
  rcases List.mem_append.1 hp with hp | hp
  · exact ⟨(h2 p hp).1, Sl.keep (h2 p hp).2 RFld.kept hne (fun b hb => hC.block b hb.2.1 (fun e => hb.2.2 e.2))⟩
  · exact ⟨(k2 p hp).1, Sl.keep (k2 p hp).2 RFld.kept (fun b hb => hne b (hE b hb)) (fun b hb => hC.block b (hE b hb).2.1 (fun e => (hE b hb).2.2 e.2))⟩
theorem own_apart {w w5 : World} {base : Nat} {v : Value} {xs : List Ev} (h : OwnG w base v xs) (hL : base ≤ w.heap.size) : ∀ b, (w.heap.size ≤ b ∧ b < w5.heap.size) → base ≤ b ∧ b < w5.heap.size ∧ v.ownBlock ≠ some b :=
  fun b hb => ⟨by omega, hb.2, fun e => by have := OwnL.lt h b e; omega⟩
end Go.Proofs.Ytjglmjdfndcmmaa
