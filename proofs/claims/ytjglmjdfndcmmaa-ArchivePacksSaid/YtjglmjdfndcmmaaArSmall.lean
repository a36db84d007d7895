/- small answers, and changes nothing. -/
import Derived.Test.YtjglmjdfndcmmaaArEv
import Derived.Outline
import Derived.Shelf.Abstract
import Derived.Deep.QuietTactic
set_option linter.all false
namespace Go.Proofs.Ytjglmjdfndcmmaa
open Go.RowKit

/-- It answers yes or no. -/
def SomeB (w : World) (x : Ending) (w' : World) : Prop := (∃ q : Bool, x = .returned (.bool q)) ∧ Below w.heap.size w w'
set_option maxHeartbeats 1000000 in
theorem indexFF (k : FuncId) (eg : ∀ args w, (callFunc k args).run Try.prog w = .ok (.enter k args) w) (u : Value) (l : List Fld) (w : World) (hu : SlFl (Lt w.heap.size) w u l) (hk : ∀ W x, FitFl x → Below w.heap.size w W → Calls Try.prog k #[fldV x] W (SomeB W)) :
    Calls Try.prog 51 #[u, .func (.func k) #[] #[]] w fun x w' => (∃ z : Int, x = .returned (.int .i64 z)) ∧ Below w.heap.size w w' := by
  obtain ⟨A, c, rfl, h1, h2, hs⟩ := hu.open_
  have HS := Lib.hid hs
  have HK := Lib.hid hk
  clear hu hs hk
  go_enter Try.func51, Try.ntmps51
  go_wp2_with fail
  go_loopw [8] (fun iv wr => ∃ i : Nat, iv = .int .i64 (i : Int) ∧ i ≤ l.length ∧ Below w.heap.size w wr) (fun iv _ => l.length - (intOf iv).toNat)
  case atStart => exact ⟨0, rfl, Nat.zero_le _, Below.refl _ _⟩
  case round =>
    obtain ⟨i, rfl, hi, hbr⟩ := hrel
    by_cases hlt : i < l.length
    · obtain ⟨b, o, x, rfl, hD, hx, hf, f0, f1, f2, f3⟩ := SlFl.at_ HS.out hlt
      have r0 := (hbr.cell (p := ⟨b, o + i * 4, none⟩) hD).trans f0
      have r1 := (hbr.cell (p := ⟨b, o + i * 4 + 1, none⟩) hD).trans f1
      have r2 := (hbr.cell (p := ⟨b, o + i * 4 + 2, none⟩) hD).trans f2
      have r3 := (hbr.cell (p := ⟨b, o + i * 4 + 3, none⟩) hD).trans f3
      have hc := HK.out _ x hf hbr
      unfold fldV at hc
      have HC := Lib.hid hc
      clear hc hx
      go_wp2_with (go_at_fn k; (with_reducible refine HC.out.mono ?_))
      rintro y w1 ⟨⟨q, rfl⟩, hb1⟩
      cases q
      · go_wp2_with fail
        go_roundw
        case rel => exact ⟨i + 1, by go_num, by omega, bthen hbr hb1⟩
        case measure => simp [intOf]; omega
      · go_wp2_with fail
        go_ret
        exact ⟨⟨_, rfl⟩, bthen hbr hb1⟩
    · go_wp2_with fail
      go_ret
      exact ⟨⟨_, rfl⟩, hbr⟩
set_option maxHeartbeats 1000000 in
theorem containsFF (k : FuncId) (eg : ∀ args w, (callFunc k args).run Try.prog w = .ok (.enter k args) w) (u : Value) (l : List Fld) (w : World) (hu : SlFl (Lt w.heap.size) w u l) (hk : ∀ W x, FitFl x → Below w.heap.size w W → Calls Try.prog k #[fldV x] W (SomeB W)) :
    Calls Try.prog 29 #[u, .func (.func k) #[] #[]] w (SomeB w) := by
  have HI := Lib.hid (indexFF k eg u l w hu hk)
  obtain ⟨A, c, rfl, _, _, _⟩ := hu.open_
  clear hu hk eg
  go_enter Try.func29, Try.ntmps29
  go_wp2_with fail
  (with_reducible refine HI.out.mono ?_)
  rintro y w1 ⟨⟨z, rfl⟩, hb1⟩
  go_wp2_with fail
  go_ret
  exact ⟨⟨_, rfl⟩, hb1⟩
set_option maxHeartbeats 1000000 in
theorem indexFE (k : FuncId) (eg : ∀ args w, (callFunc k args).run Try.prog w = .ok (.enter k args) w) (u : Value) (l : List Ev) (w : World) (hu : SlEv (Lt w.heap.size) w u l) (hk : ∀ W x dv, FitEv x → SlFl (Lt W.heap.size) W dv x.data → Below w.heap.size w W → Calls Try.prog k #[evV x dv] W (SomeB W)) :
    Calls Try.prog 50 #[u, .func (.func k) #[] #[]] w fun x w' => (∃ z : Int, x = .returned (.int .i64 z)) ∧ Below w.heap.size w w' := by
  obtain ⟨A, c, rfl, h1, h2, hs⟩ := hu.open_
  have HS := Lib.hid hs
  have HK := Lib.hid hk
  clear hu hs hk
  go_enter Try.func50, Try.ntmps50
  go_wp2_with fail
  go_loopw [8] (fun iv wr => ∃ i : Nat, iv = .int .i64 (i : Int) ∧ i ≤ l.length ∧ Below w.heap.size w wr) (fun iv _ => l.length - (intOf iv).toNat)
  case atStart => exact ⟨0, rfl, Nat.zero_le _, Below.refl _ _⟩
  case round =>
    obtain ⟨i, rfl, hi, hbr⟩ := hrel
    by_cases hlt : i < l.length
    · obtain ⟨b, o, x, dv, rfl, hD, hx, hf, hd, f0, f1, f2, f3, f4, f5⟩ := SlEv.at_ HS.out hlt
      have r0 := (hbr.cell (p := ⟨b, o + i * 6, none⟩) hD).trans f0
      have r1 := (hbr.cell (p := ⟨b, o + i * 6 + 1, none⟩) hD).trans f1
      have r2 := (hbr.cell (p := ⟨b, o + i * 6 + 2, none⟩) hD).trans f2
      have r3 := (hbr.cell (p := ⟨b, o + i * 6 + 3, none⟩) hD).trans f3
      have r4 := (hbr.cell (p := ⟨b, o + i * 6 + 4, none⟩) hD).trans f4
      have r5 := (hbr.cell (p := ⟨b, o + i * 6 + 5, none⟩) hD).trans f5
      have hc := HK.out _ x dv hf (hd.below hbr hbr.size) hbr
      unfold evV at hc
      have HC := Lib.hid hc
      clear hc hx
      go_wp2_with (go_at_fn k; (with_reducible refine HC.out.mono ?_))
      rintro y w1 ⟨⟨q, rfl⟩, hb1⟩
      cases q
      · go_wp2_with fail
        go_roundw
        case rel => exact ⟨i + 1, by go_num, by omega, bthen hbr hb1⟩
        case measure => simp [intOf]; omega
      · go_wp2_with fail
        go_ret
        exact ⟨⟨_, rfl⟩, bthen hbr hb1⟩
    · go_wp2_with fail
      go_ret
      exact ⟨⟨_, rfl⟩, hbr⟩
set_option maxHeartbeats 1000000 in
theorem containsFE (k : FuncId) (eg : ∀ args w, (callFunc k args).run Try.prog w = .ok (.enter k args) w) (u : Value) (l : List Ev) (w : World) (hu : SlEv (Lt w.heap.size) w u l) (hk : ∀ W x dv, FitEv x → SlFl (Lt W.heap.size) W dv x.data → Below w.heap.size w W → Calls Try.prog k #[evV x dv] W (SomeB W)) :
    Calls Try.prog 27 #[u, .func (.func k) #[] #[]] w (SomeB w) := by
  have HI := Lib.hid (indexFE k eg u l w hu hk)
  obtain ⟨A, c, rfl, _, _, _⟩ := hu.open_
  clear hu hk eg
  go_enter Try.func27, Try.ntmps27
  go_wp2_with fail
  (with_reducible refine HI.out.mono ?_)
  rintro y w1 ⟨⟨z, rfl⟩, hb1⟩
  go_wp2_with fail
  go_ret
  exact ⟨⟨_, rfl⟩, hb1⟩
set_option maxHeartbeats 1000000 in
theorem small11 (x : Fld) (w : World) (hf : FitFl x) : Calls Try.prog 30 #[fldV x] w (SomeB w) := by
  have hb1 := bone w (.cells #[.string x.nm, .int .i64 x.v.kind, .int .i64 x.v.n, .string x.v.s] 64)
  obtain ⟨q0, q1, q2, q3⟩ := (Blk.new w 64 #[.string x.nm, .int .i64 x.v.kind, .int .i64 x.v.n, .string x.v.s]).c4
  unfold fldV
  by_cases h1 : 60 < x.nm.size
  · have z1 : (60 : Int) < (x.nm.size : Int) := by omega
    go_enter Try.func30, Try.ntmps30
    go_wp2_with fail
    go_ret
    exact ⟨⟨_, rfl⟩, hb1⟩
  · have z1 : ¬ (60 : Int) < (x.nm.size : Int) := by omega
    go_enter Try.func30, Try.ntmps30
    go_wp2_with fail
    go_ret
    exact ⟨⟨_, rfl⟩, hb1⟩
set_option maxHeartbeats 2000000 in
theorem small1 (x : Ev) (dv : Value) (w : World) (hf : FitEv x) (hd : SlFl (Lt w.heap.size) w dv x.data) : Calls Try.prog 28 #[evV x dv] w (SomeB w) := by
  have hd0 := hd
  obtain ⟨Ad, cd, rfl, _, _, _⟩ := hd.open_
  have hb1 := bone w (.cells #[.string x.cas, .string x.act, .string x.res, .int .i64 x.life, .int .i64 x.time, .slice Ad x.data.length cd] 57)
  obtain ⟨q0, q1, q2, q3, q4, q5⟩ := (Blk.new w 57 #[.string x.cas, .string x.act, .string x.res, .int .i64 x.life, .int .i64 x.time, .slice Ad x.data.length cd]).c6
  have eg : ∀ args w, (callFunc 30 args).run Try.prog w = .ok (.enter 30 args) w := enters_of Try.func30 (by kernel_rfl) rfl
  have HC := Lib.hid (containsFF 30 eg _ x.data _ (hd0.now hb1) (fun W f hff _ => small11 f W hff))
  unfold evV
  clear eg hd hd0
  by_cases h0 : 60 < x.cas.size
  · have z0 : (60 : Int) < (x.cas.size : Int) := by omega
    go_enter Try.func28, Try.ntmps28
    go_wp2_with fail
    go_ret
    exact ⟨⟨_, rfl⟩, hb1⟩
  have z0 : ¬ (60 : Int) < (x.cas.size : Int) := by omega
  by_cases h1 : 60 < x.act.size
  · have z1 : (60 : Int) < (x.act.size : Int) := by omega
    go_enter Try.func28, Try.ntmps28
    go_wp2_with fail
    go_ret
    exact ⟨⟨_, rfl⟩, hb1⟩
  have z1 : ¬ (60 : Int) < (x.act.size : Int) := by omega
  by_cases h2 : 60 < x.res.size
  · have z2 : (60 : Int) < (x.res.size : Int) := by omega
    go_enter Try.func28, Try.ntmps28
    go_wp2_with fail
    go_ret
    exact ⟨⟨_, rfl⟩, hb1⟩
  have z2 : ¬ (60 : Int) < (x.res.size : Int) := by omega
  by_cases h3 : 12 < x.data.length
  · have z3 : (12 : Int) < (x.data.length : Int) := by omega
    go_enter Try.func28, Try.ntmps28
    go_wp2_with fail
    go_ret
    exact ⟨⟨_, rfl⟩, hb1⟩
  have z3 : ¬ (12 : Int) < (x.data.length : Int) := by omega
  go_enter Try.func28, Try.ntmps28
  go_wp2_with fail
  (with_reducible refine HC.out.mono ?_)
  rintro y w1 ⟨⟨q, rfl⟩, hb2⟩
  go_wp2_with fail
  go_ret
  exact ⟨⟨_, rfl⟩, bthen hb1 hb2⟩
set_option maxHeartbeats 2000000 in
theorem small_any (l : List Ev) (u : Value) (w : World) (h : IsLog (Lt w.heap.size) w u l) : Calls Try.prog 8 #[u] w (SomeB w) := by
  obtain ⟨ev, rfl, hs⟩ := h
  have hs0 := hs
  obtain ⟨A, c, rfl, _, _, _⟩ := hs.open_
  have hb1 := bone w (.cells #[.slice A l.length c] 24)
  have hc1 := (Blk.new w 24 #[.slice A l.length c]).c1
  have eg : ∀ args w, (callFunc 28 args).run Try.prog w = .ok (.enter 28 args) w := enters_of Try.func28 (by kernel_rfl) rfl
  have HC := Lib.hid (containsFE 28 eg _ l _ (hs0.now hb1) (fun W e dv hff hdv _ => small1 e dv W hff hdv))
  clear eg hs hs0
  by_cases h0 : l.length ≤ 230
  · have z0 : (l.length : Int) ≤ 230 := by omega
    go_enter Try.func8, Try.ntmps8
    go_wp2_with fail
    (with_reducible refine HC.out.mono ?_)
    rintro y w1 ⟨⟨q, rfl⟩, hb2⟩
    go_wp2_with fail
    go_ret
    exact ⟨⟨_, rfl⟩, bthen hb1 hb2⟩
  · have z0 : ¬ (l.length : Int) ≤ 230 := by omega
    go_enter Try.func8, Try.ntmps8
    go_wp2_with fail
    go_ret
    exact ⟨⟨_, rfl⟩, hb1⟩
end Go.Proofs.Ytjglmjdfndcmmaa
