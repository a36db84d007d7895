/- Texts of this seat, merged. -/
import Derived.Outline
import Derived.Shelf.Abstract
import Derived.Deep.QuietTactic
import Derived.Laws.BitsAllLaws
import Derived.Test.YtjglmjdfndcmmaaZb01
import Derived.Test.YtjglmjdfndcmmaaZb02
set_option linter.all false
set_option linter.all false
namespace Go.Proofs.Ytjglmjdfndcmmaa
open Go.RowKit
def SomeB (w : World) (x : Ending) (w' : World) : Prop := (∃ q : Bool, x = .returned (.bool q)) ∧ Below w.heap.size w w'
set_option maxHeartbeats 1000000 in
theorem indexFF (k : FuncId) (eg : ∀ args w, (callFunc k args).run Try.prog w = .ok (.enter k args) w) (u : Value) (l : List Fld) (w : World) (hu : SlFl (Lt w.heap.size) w u l) (hk : ∀ W x, FitFl x → Below w.heap.size w W → Calls Try.prog k #[fldV x] W (SomeB W)) :
    Calls Try.prog 51 #[u, .func (.func k) #[] #[]] w fun x w' => (∃ z : Int, x = .returned (.int .i64 z)) ∧ Below w.heap.size w w' := by
  obtain ⟨A, c, rfl, h1, h2, hs⟩ := hu.open_
  have HS := Lib.hid hs
  have HK := Lib.hid hk
  clear hu hs hk
  go_enter Try.func51, Try.ntmps51
  go_wp2_with fail
  go_loopw [8] (fun iv wr => ∃ i : Nat, iv = .int .i64 (i : Int) ∧ i ≤ l.length ∧ Below w.heap.size w wr) (fun iv _ => l.length - (intOf iv).toNat)
  case atStart => exact ⟨0, rfl, Nat.zero_le _, Below.refl _ _⟩
  case round =>
    obtain ⟨i, rfl, hi, hbr⟩ := hrel
    by_cases hlt : i < l.length
    · obtain ⟨b, o, x, rfl, hD, hx, hf, f0, f1, f2, f3⟩ := SlFl.at_ HS.out hlt
      have r0 := (hbr.cell (p := ⟨b, o + i * 4, none⟩) hD).trans f0
      have r1 := (hbr.cell (p := ⟨b, o + i * 4 + 1, none⟩) hD).trans f1
      have r2 := (hbr.cell (p := ⟨b, o + i * 4 + 2, none⟩) hD).trans f2
      have r3 := (hbr.cell (p := ⟨b, o + i * 4 + 3, none⟩) hD).trans f3
      have hc := HK.out _ x hf hbr
      unfold fldV at hc
      have HC := Lib.hid hc
      clear hc hx
      go_wp2_with (go_at_fn k; (with_reducible refine HC.out.mono ?_))
      rintro y w1 ⟨⟨q, rfl⟩, hb1⟩
      cases q
      · go_wp2_with fail
        go_roundw
        case rel => exact ⟨i + 1, by go_num, by omega, bthen hbr hb1⟩
        case measure => simp [intOf]; omega
      · go_wp2_with fail
        go_ret
        exact ⟨⟨_, rfl⟩, bthen hbr hb1⟩
    · go_wp2_with fail
      go_ret
      exact ⟨⟨_, rfl⟩, hbr⟩
set_option maxHeartbeats 1000000 in
theorem containsFF (k : FuncId) (eg : ∀ args w, (callFunc k args).run Try.prog w = .ok (.enter k args) w) (u : Value) (l : List Fld) (w : World) (hu : SlFl (Lt w.heap.size) w u l) (hk : ∀ W x, FitFl x → Below w.heap.size w W → Calls Try.prog k #[fldV x] W (SomeB W)) :
    Calls Try.prog 29 #[u, .func (.func k) #[] #[]] w (SomeB w) := by
  have HI := Lib.hid (indexFF k eg u l w hu hk)
  obtain ⟨A, c, rfl, _, _, _⟩ := hu.open_
  clear hu hk eg
  go_enter Try.func29, Try.ntmps29
  go_wp2_with fail
  (with_reducible refine HI.out.mono ?_)
  rintro y w1 ⟨⟨z, rfl⟩, hb1⟩
  go_wp2_with fail
  go_ret
  exact ⟨⟨_, rfl⟩, hb1⟩
set_option maxHeartbeats 1000000 in
theorem indexFE (k : FuncId) (eg : ∀ args w, (callFunc k args).run Try.prog w = .ok (.enter k args) w) (u : Value) (l : List Ev) (w : World) (hu : SlEv (Lt w.heap.size) w u l) (hk : ∀ W x dv, FitEv x → SlFl (Lt W.heap.size) W dv x.data → Below w.heap.size w W → Calls Try.prog k #[evV x dv] W (SomeB W)) :
    Calls Try.prog 50 #[u, .func (.func k) #[] #[]] w fun x w' => (∃ z : Int, x = .returned (.int .i64 z)) ∧ Below w.heap.size w w' := by
  obtain ⟨A, c, rfl, h1, h2, hs⟩ := hu.open_
  have HS := Lib.hid hs
  have HK := Lib.hid hk
  clear hu hs hk
  go_enter Try.func50, Try.ntmps50
  go_wp2_with fail
  go_loopw [8] (fun iv wr => ∃ i : Nat, iv = .int .i64 (i : Int) ∧ i ≤ l.length ∧ Below w.heap.size w wr) (fun iv _ => l.length - (intOf iv).toNat)
  case atStart => exact ⟨0, rfl, Nat.zero_le _, Below.refl _ _⟩
  case round =>
    obtain ⟨i, rfl, hi, hbr⟩ := hrel
    by_cases hlt : i < l.length
    · obtain ⟨b, o, x, dv, rfl, hD, hx, hf, hd, f0, f1, f2, f3, f4, f5⟩ := SlEv.at_ HS.out hlt
      have r0 := (hbr.cell (p := ⟨b, o + i * 6, none⟩) hD).trans f0
      have r1 := (hbr.cell (p := ⟨b, o + i * 6 + 1, none⟩) hD).trans f1
      have r2 := (hbr.cell (p := ⟨b, o + i * 6 + 2, none⟩) hD).trans f2
      have r3 := (hbr.cell (p := ⟨b, o + i * 6 + 3, none⟩) hD).trans f3
      have r4 := (hbr.cell (p := ⟨b, o + i * 6 + 4, none⟩) hD).trans f4
      have r5 := (hbr.cell (p := ⟨b, o + i * 6 + 5, none⟩) hD).trans f5
      have hc := HK.out _ x dv hf (hd.below hbr hbr.size) hbr
      unfold evV at hc
      have HC := Lib.hid hc
      clear hc hx
      go_wp2_with (go_at_fn k; (with_reducible refine HC.out.mono ?_))
      rintro y w1 ⟨⟨q, rfl⟩, hb1⟩
      cases q
      · go_wp2_with fail
        go_roundw
        case rel => exact ⟨i + 1, by go_num, by omega, bthen hbr hb1⟩
        case measure => simp [intOf]; omega
      · go_wp2_with fail
        go_ret
        exact ⟨⟨_, rfl⟩, bthen hbr hb1⟩
    · go_wp2_with fail
      go_ret
      exact ⟨⟨_, rfl⟩, hbr⟩
set_option maxHeartbeats 1000000 in
theorem containsFE (k : FuncId) (eg : ∀ args w, (callFunc k args).run Try.prog w = .ok (.enter k args) w) (u : Value) (l : List Ev) (w : World) (hu : SlEv (Lt w.heap.size) w u l) (hk : ∀ W x dv, FitEv x → SlFl (Lt W.heap.size) W dv x.data → Below w.heap.size w W → Calls Try.prog k #[evV x dv] W (SomeB W)) :
    Calls Try.prog 27 #[u, .func (.func k) #[] #[]] w (SomeB w) := by
  have HI := Lib.hid (indexFE k eg u l w hu hk)
  obtain ⟨A, c, rfl, _, _, _⟩ := hu.open_
  clear hu hk eg
  go_enter Try.func27, Try.ntmps27
  go_wp2_with fail
  (with_reducible refine HI.out.mono ?_)
  rintro y w1 ⟨⟨z, rfl⟩, hb1⟩
  go_wp2_with fail
  go_ret
  exact ⟨⟨_, rfl⟩, hb1⟩
set_option maxHeartbeats 1000000 in
theorem small11 (x : Fld) (w : World) (hf : FitFl x) : Calls Try.prog 30 #[fldV x] w (SomeB w) := by
  have hb1 := bone w (.cells #[.string x.nm, .int .i64 x.v.kind, .int .i64 x.v.n, .string x.v.s] 64)
  obtain ⟨q0, q1, q2, q3⟩ := (Blk.new w 64 #[.string x.nm, .int .i64 x.v.kind, .int .i64 x.v.n, .string x.v.s]).c4
  unfold fldV
  by_cases h1 : 60 < x.nm.size
  · have z1 : (60 : Int) < (x.nm.size : Int) := by omega
    go_enter Try.func30, Try.ntmps30
    go_wp2_with fail
    go_ret
    exact ⟨⟨_, rfl⟩, hb1⟩
  · have z1 : ¬ (60 : Int) < (x.nm.size : Int) := by omega
    go_enter Try.func30, Try.ntmps30
    go_wp2_with fail
    go_ret
    exact ⟨⟨_, rfl⟩, hb1⟩
set_option maxHeartbeats 2000000 in
theorem small1 (x : Ev) (dv : Value) (w : World) (hf : FitEv x) (hd : SlFl (Lt w.heap.size) w dv x.data) : Calls Try.prog 28 #[evV x dv] w (SomeB w) := by
  have hd0 := hd
  obtain ⟨Ad, cd, rfl, _, _, _⟩ := hd.open_
  have hb1 := bone w (.cells #[.string x.cas, .string x.act, .string x.res, .int .i64 x.life, .int .i64 x.time, .slice Ad x.data.length cd] 57)
  obtain ⟨q0, q1, q2, q3, q4, q5⟩ := (Blk.new w 57 #[.string x.cas, .string x.act, .string x.res, .int .i64 x.life, .int .i64 x.time, .slice Ad x.data.length cd]).c6
  have eg : ∀ args w, (callFunc 30 args).run Try.prog w = .ok (.enter 30 args) w := enters_of Try.func30 (by kernel_rfl) rfl
  have HC := Lib.hid (containsFF 30 eg _ x.data _ (hd0.now hb1) (fun W f hff _ => small11 f W hff))
  unfold evV
  clear eg hd hd0
  by_cases h0 : 60 < x.cas.size
  · have z0 : (60 : Int) < (x.cas.size : Int) := by omega
    go_enter Try.func28, Try.ntmps28
    go_wp2_with fail
    go_ret
    exact ⟨⟨_, rfl⟩, hb1⟩
  have z0 : ¬ (60 : Int) < (x.cas.size : Int) := by omega
  by_cases h1 : 60 < x.act.size
  · have z1 : (60 : Int) < (x.act.size : Int) := by omega
    go_enter Try.func28, Try.ntmps28
    go_wp2_with fail
    go_ret
    exact ⟨⟨_, rfl⟩, hb1⟩
  have z1 : ¬ (60 : Int) < (x.act.size : Int) := by omega
  by_cases h2 : 60 < x.res.size
  · have z2 : (60 : Int) < (x.res.size : Int) := by omega
    go_enter Try.func28, Try.ntmps28
    go_wp2_with fail
    go_ret
    exact ⟨⟨_, rfl⟩, hb1⟩
  have z2 : ¬ (60 : Int) < (x.res.size : Int) := by omega
  by_cases h3 : 12 < x.data.length
  · have z3 : (12 : Int) < (x.data.length : Int) := by omega
    go_enter Try.func28, Try.ntmps28
    go_wp2_with fail
    go_ret
    exact ⟨⟨_, rfl⟩, hb1⟩
  have z3 : ¬ (12 : Int) < (x.data.length : Int) := by omega
  go_enter Try.func28, Try.ntmps28
  go_wp2_with fail
  (with_reducible refine HC.out.mono ?_)
  rintro y w1 ⟨⟨q, rfl⟩, hb2⟩
  go_wp2_with fail
  go_ret
  exact ⟨⟨_, rfl⟩, bthen hb1 hb2⟩
set_option maxHeartbeats 2000000 in
theorem small_any (l : List Ev) (u : Value) (w : World) (h : IsLog (Lt w.heap.size) w u l) : Calls Try.prog 8 #[u] w (SomeB w) := by
  obtain ⟨ev, rfl, hs⟩ := h
  have hs0 := hs
  obtain ⟨A, c, rfl, _, _, _⟩ := hs.open_
  have hb1 := bone w (.cells #[.slice A l.length c] 24)
  have hc1 := (Blk.new w 24 #[.slice A l.length c]).c1
  have eg : ∀ args w, (callFunc 28 args).run Try.prog w = .ok (.enter 28 args) w := enters_of Try.func28 (by kernel_rfl) rfl
  have HC := Lib.hid (containsFE 28 eg _ l _ (hs0.now hb1) (fun W e dv hff hdv _ => small1 e dv W hff hdv))
  clear eg hs hs0
  by_cases h0 : l.length ≤ 230
  · have z0 : (l.length : Int) ≤ 230 := by omega
    go_enter Try.func8, Try.ntmps8
    go_wp2_with fail
    (with_reducible refine HC.out.mono ?_)
    rintro y w1 ⟨⟨q, rfl⟩, hb2⟩
    go_wp2_with fail
    go_ret
    exact ⟨⟨_, rfl⟩, bthen hb1 hb2⟩
  · have z0 : ¬ (l.length : Int) ≤ 230 := by omega
    go_enter Try.func8, Try.ntmps8
    go_wp2_with fail
    go_ret
    exact ⟨⟨_, rfl⟩, hb1⟩
end Go.Proofs.Ytjglmjdfndcmmaa

set_option linter.all false
namespace Go.Proofs.Ytjglmjdfndcmmaa
open Go.RowKit
structure Chg (S : Nat → Prop) (w w' : World) : Prop where
  os : w'.os = w.os
  tape : w'.tape = w.tape
  output : w'.output = w.output
  size : w.heap.size ≤ w'.heap.size
  block : ∀ i, i < w.heap.size → ¬ S i → w'.heap[i]? = w.heap[i]?
section
variable {S T : Nat → Prop} {w w' w'' : World}
theorem Chg.refl : Chg S w w := ⟨rfl, rfl, rfl, Nat.le_refl _, fun _ _ _ => rfl⟩
theorem Chg.trans (h : Chg S w w') (k : Chg S w' w'') : Chg S w w'' :=
  ⟨k.os.trans h.os, k.tape.trans h.tape, k.output.trans h.output, Nat.le_trans h.size k.size, fun i hi hn => (k.block i (Nat.lt_of_lt_of_le hi h.size) hn).trans (h.block i hi hn)⟩
theorem Chg.mono (h : Chg S w w') (hs : ∀ i, i < w.heap.size → S i → T i) : Chg T w w' := ⟨h.os, h.tape, h.output, h.size, fun i hi hn => h.block i hi fun hs' => hn (hs i hi hs')⟩
theorem Chg.of_below (h : Below w.heap.size w w') : Chg S w w' := ⟨h.os, h.tape, h.output, h.size, fun i hi _ => h.block i hi⟩
theorem Chg.set (h : Chg S w w') {p : Addr} (hp : w.heap.size ≤ p.block ∨ S p.block) (u : Value) : Chg S w (w'.setCell p u) :=
  ⟨h.os, h.tape, h.output, by simpa using h.size, fun i hi hn => (Below.heap_setCell w' p u i fun e => by
    rcases hp with hp | hp
    · omega
    · rw [← e] at hp; exact hn hp).trans (h.block i hi hn)⟩
theorem Chg.alloc (h : Chg S w w') (o : Obj) : Chg S w (w'.alloc o) := h.trans (Chg.of_below (bone w' o))
theorem Chg.drew (h : Chg S w w') : Chg S w w'.drew := ⟨h.os, h.tape, h.output, h.size, h.block⟩
theorem Chg.below {B : Nat} (h : Chg S w w') (hB : B ≤ w.heap.size) (hs : ∀ i, i < B → ¬ S i) : Below B w w' := ⟨h.os, h.tape, h.output, h.size, fun i hi => h.block i (Nat.lt_of_lt_of_le hi hB) (hs i hi)⟩
theorem Blk.chg {g t : Nat} {cs : Array Value} (h : Blk w g t cs) (k : Chg S w w') (hg : ¬ S g) : Blk w' g t cs := (k.block g h.lt hg).trans h
end
def One (R : Nat) : Nat → Prop := fun i => i = R
def RdP (B : Nat) (w : World) (R : Nat) (l : List UInt8) (q : Bool) : Prop := ∃ b o c, Blk w R 75 #[.slice (some ⟨b, o, none⟩) l.length c, .bool q] ∧ l.length ≤ c ∧ c ≤ 9223372036854775807 ∧ SlC (Lt B) w (.slice (some ⟨b, o, none⟩) l.length c) l
theorem RdP.chg {B R : Nat} {w w' : World} {l : List UInt8} {q : Bool} {S : Nat → Prop} (h : RdP B w R l q) (k : Chg S w w') (hB : B ≤ w.heap.size) (hR : ¬ S R) (hS : ∀ i, i < B → ¬ S i) : RdP B w' R l q := by
  obtain ⟨b, o, c, h1, h2, h3, h4⟩ := h
  exact ⟨b, o, c, h1.chg k hR, h2, h3, Sl.below h4 RByte.kept (k.below hB hS) (Nat.le_refl _)⟩
theorem SlC.empty {D : Nat → Prop} {w : World} (A : Option Addr) {c : Nat} (hc : c ≤ 9223372036854775807) : SlC D w (.slice A 0 c) [] := ⟨A, c, rfl, Nat.zero_le _, hc, fun k x h => by simp at h⟩
theorem SlC.drop {D : Nat → Prop} {w : World} {b o n c i : Nat} {l : List UInt8} (h : SlC D w (.slice (some ⟨b, o, none⟩) n c) l) (hn : n = l.length) (hi : i ≤ n) (hc : n ≤ c) (hc2 : c ≤ 9223372036854775807) (A : Option Addr) (hA : i < n → A = some ⟨b, o + i, none⟩) : SlC D w (.slice A (l.drop i).length (c - i)) (l.drop i) := by
  subst hn
  rcases Nat.lt_or_ge i l.length with h1 | h1
  · obtain rfl := hA h1
    have h2 := Sl.sub h i (l.length - i) (c - i) (by omega) (by omega) (by unfold maxLen; omega)
    rw [Nat.mul_one, List.take_of_length_le (by rw [List.length_drop]; exact Nat.le_refl _)] at h2
    rw [List.length_drop]
    exact h2
  · rw [List.drop_eq_nil_of_le h1]
    exact SlC.empty A (by omega)
structure GotN (most : Nat) (l : List UInt8) (q : Bool) (n : Nat) (l' : List UInt8) (q' : Bool) : Prop where
  le : n ≤ most
  up : q' = false → q = false
  short : l'.length ≤ l.length
  whole : ∀ m t, q = false → l = arNum m ++ t → m ≤ most → m < 9223372036854775808 → n = m ∧ l' = t ∧ q' = false
theorem arNum_head {m : Nat} {l t : List UInt8} {c : UInt8} (h : c :: l = arNum m ++ t) : (c.toNat < 128 ∧ m = c.toNat ∧ l = t) ∨ (128 ≤ c.toNat ∧ m % 128 = c.toNat % 128 ∧ 128 ≤ m ∧ l = arNum (m / 128) ++ t) := by
  by_cases hm : m < 128
  · rw [arNum_one hm] at h
    injection h with h1 h2
    have : c.toNat = m := by rw [h1, UInt8.toNat_ofNat']; omega
    exact .inl ⟨by omega, this.symm, h2⟩
  · rw [arNum_more hm] at h
    injection h with h1 h2
    have : c.toNat = m % 128 + 128 := by rw [h1, UInt8.toNat_ofNat']; omega
    exact .inr ⟨by omega, by omega, by omega, h2⟩
theorem arNum_nil {m : Nat} {t : List UInt8} : [] ≠ arNum m ++ t := fun h => by
  have h1 := congrArg List.length h
  have := arNum_pos m
  rw [List.length_append] at h1
  simp at h1
  omega
theorem low7 (c : UInt8) : bits .and .u8 (c.toNat : Int) 127 = ((c.toNat % 128 : Nat) : Int) := by
  have h := u8_and_nat c.toNat 127 (UInt8.toNat_lt c) (by omega)
  rw [Nat.and_two_pow_sub_one_eq_mod c.toNat 7] at h
  exact h
theorem i64_orN (a b : Nat) (ha : a < 9223372036854775808) (hb : b < 9223372036854775808) : bits .or .i64 (a : Int) (b : Int) = ((a ||| b : Nat) : Int) := by
  have hx : a ||| b < 2 ^ 63 := Nat.or_lt_two_pow (by omega) (by omega)
  show IntKind.i64.wrap ((BitVec.ofInt 64 (a : Int) ||| BitVec.ofInt 64 (b : Int)).toNat : Int) = _
  rw [BitVec.toNat_or, ofInt64 a ha, ofInt64 b hb, wrapI64, w64 (by omega)]
theorem or_high {n d s : Nat} (hn : n < 2 ^ s) : n ||| d * 2 ^ s = n + d * 2 ^ s := by
  have := Nat.two_pow_add_eq_or_of_lt (i := s) (b := n) hn d
  rw [Nat.or_comm, Nat.mul_comm d, ← this]; omega
theorem pow128 (j : Nat) : 128 ^ j = 2 ^ (7 * j) := by rw [Nat.pow_mul]
def NumAt (l : List UInt8) (j n : Nat) : Prop := ∀ m t, l = arNum m ++ t → m < 9223372036854775808 → ∃ m', l.drop j = arNum m' ++ t ∧ n + 128 ^ j * m' = m
theorem NumAt.start (l : List UInt8) : NumAt l 0 0 := fun m t h _ => ⟨m, h, by simp⟩
theorem pow128_le {j : Nat} (h : j ≤ 8) : 128 ^ j ≤ 72057594037927936 := by
  have := Nat.pow_le_pow_right (n := 128) (by omega) h
  simpa using this
theorem NumAt.last {l : List UInt8} {j n : Nat} {c : UInt8} (h : NumAt l j n) (hc : l[j]? = some c) (hlt : c.toNat < 128) : ∀ m t, l = arNum m ++ t → m < 9223372036854775808 → n + c.toNat * 128 ^ j = m ∧ l.drop (j + 1) = t := by
  intro m t hl hm
  obtain ⟨m', h1, h2⟩ := h m t hl hm
  have hj := (List.getElem?_eq_some_iff.1 hc).1
  have he : l[j] = c := (List.getElem?_eq_some_iff.1 hc).2
  rw [List.drop_eq_getElem_cons hj, he] at h1
  rcases arNum_head h1 with ⟨_, h3, h4⟩ | ⟨h3, _⟩
  · exact ⟨by rw [← h2, h3, Nat.mul_comm], h4⟩
  · omega
theorem NumAt.more {l : List UInt8} {j n : Nat} {c : UInt8} (h : NumAt l j n) (hc : l[j]? = some c) (hlt : 128 ≤ c.toNat) : NumAt l (j + 1) (n + c.toNat % 128 * 128 ^ j) := by
  intro m t hl hm
  obtain ⟨m', h1, h2⟩ := h m t hl hm
  have hj := (List.getElem?_eq_some_iff.1 hc).1
  have he : l[j] = c := (List.getElem?_eq_some_iff.1 hc).2
  rw [List.drop_eq_getElem_cons hj, he] at h1
  rcases arNum_head h1 with ⟨h3, _⟩ | ⟨_, h3, h4, h5⟩
  · omega
  · refine ⟨m' / 128, h5, ?_⟩
    rw [← h2, ← h3, Nat.pow_succ]
    have h6 := Nat.div_add_mod m' 128
    have h7 : 128 ^ j * m' = 128 ^ j * (128 * (m' / 128)) + 128 ^ j * (m' % 128) := by rw [← Nat.mul_add, h6]
    rw [h7, Nat.mul_assoc, Nat.mul_comm (m' % 128)]
    omega
theorem NumAt.few {l : List UInt8} {n : Nat} (h : NumAt l 9 n) : ∀ m t, l = arNum m ++ t → ¬ m < 9223372036854775808 := by
  intro m t hl hm
  obtain ⟨m', h1, h2⟩ := h m t hl hm
  have h3 : (arNum m).length ≤ 9 := arNum_len hm
  have h4 := congrArg List.length h1
  have h5 := congrArg List.length hl
  have h6 := arNum_pos m'
  rw [List.length_drop, List.length_append] at h4
  rw [List.length_append] at h5
  omega
theorem NumAt.short {l : List UInt8} {j n : Nat} (h : NumAt l j n) (hj : l.length ≤ j) : ∀ m t, l = arNum m ++ t → ¬ m < 9223372036854775808 := by
  intro m t hl hm
  obtain ⟨m', h1, h2⟩ := h m t hl hm
  rw [List.drop_eq_nil_of_le hj] at h1
  exact arNum_nil h1
end Go.Proofs.Ytjglmjdfndcmmaa
