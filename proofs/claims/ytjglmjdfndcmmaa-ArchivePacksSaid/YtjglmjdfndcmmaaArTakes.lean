/- What archive.block's functions take of an event. -/
import Derived.Test.YtjglmjdfndcmmaaArRuns
import Derived.Test.YtjglmjdfndcmmaaArMap
set_option linter.all false
namespace Go.Proofs.Ytjglmjdfndcmmaa
open Go.RowKit Go.Maps

theorem MapN.keepX {w w' : World} {b n : Nat} {f : Bs → Option Nat} (h : MapN w b n f) (k : KeepX w w') : MapN w' b n f := by
  have hlt := h.lt
  obtain ⟨D, ⟨es, clock, hb, rest⟩, r⟩ := h
  exact ⟨D, ⟨es, clock, (k.same b hlt (fun cs fz e => by rw [hb] at e; cases e)).trans hb, rest⟩, r⟩
/-- The cell that the functions share holds the map. -/
def HoldsM (g b n : Nat) (f : Bs → Option Nat) (W : World) : Prop := Blk W g 114 #[.map (some b)] ∧ MapN W b n f
theorem HoldsM.keepX {g b n : Nat} {f : Bs → Option Nat} {W W' : World} (h : HoldsM g b n f W) (k : KeepX W W') : HoldsM g b n f W' := ⟨h.1.keepX k (by decide), h.2.keepX k⟩
def lookN (f : Bs → Option Nat) (s : ByteArray) : Nat := (f s.data.toList).getD 0

set_option maxHeartbeats 400000 in
theorem takes1 (g b n : Nat) (f : Bs → Option Nat) : Takes 84 #[.pointer (some ⟨g, 0, none⟩)] (fun e => lookN f e.cas) (HoldsM g b n f) (fun _ => True) := by
  refine ⟨fun z w => enters_of Try.func84 (by kernel_rfl) rfl _ w, fun _ _ k h => h.keepX k, ?_⟩
  rintro W u e _ ⟨hB, hM⟩ ⟨dv, rfl, hf, hd⟩
  show Calls Try.prog 84 #[evV e dv, .pointer (some ⟨g, 0, none⟩)] W _
  obtain ⟨Ad, cd, rfl, _, _, _⟩ := hd.open_
  have hb1 := bone W (.cells #[.string e.cas, .string e.act, .string e.res, .int .i64 e.life, .int .i64 e.time, .slice Ad e.data.length cd] 57)
  have hN1 := Blk.new W 57 #[.string e.cas, .string e.act, .string e.res, .int .i64 e.life, .int .i64 e.time, .slice Ad e.data.length cd]
  obtain ⟨q0, q1, q2, q3, q4, q5⟩ := hN1.c6
  have hc := (hB.now hb1).c1
  have hlk := (hM.now hb1).look hf.cas
  have HR : Hid (lookN f e.cas = (f e.cas.data.toList).getD 0) := rfl
  generalize (f e.cas.data.toList).getD 0 = z at *
  unfold evV
  clear hB hM hN1 hd hf
  go_enter Try.func84, Try.ntmps84
  go_wp2_with fail
  go_ret
  exact ⟨by rw [HR.out]; rfl, hb1⟩
set_option maxHeartbeats 400000 in
theorem takes2 (g b n : Nat) (f : Bs → Option Nat) : Takes 85 #[.pointer (some ⟨g, 0, none⟩)] (fun e => lookN f e.act) (HoldsM g b n f) (fun _ => True) := by
  refine ⟨fun z w => enters_of Try.func85 (by kernel_rfl) rfl _ w, fun _ _ k h => h.keepX k, ?_⟩
  rintro W u e _ ⟨hB, hM⟩ ⟨dv, rfl, hf, hd⟩
  show Calls Try.prog 85 #[evV e dv, .pointer (some ⟨g, 0, none⟩)] W _
  obtain ⟨Ad, cd, rfl, _, _, _⟩ := hd.open_
  have hb1 := bone W (.cells #[.string e.cas, .string e.act, .string e.res, .int .i64 e.life, .int .i64 e.time, .slice Ad e.data.length cd] 57)
  have hN1 := Blk.new W 57 #[.string e.cas, .string e.act, .string e.res, .int .i64 e.life, .int .i64 e.time, .slice Ad e.data.length cd]
  obtain ⟨q0, q1, q2, q3, q4, q5⟩ := hN1.c6
  have hc := (hB.now hb1).c1
  have hlk := (hM.now hb1).look hf.act
  have HR : Hid (lookN f e.act = (f e.act.data.toList).getD 0) := rfl
  generalize (f e.act.data.toList).getD 0 = z at *
  unfold evV
  clear hB hM hN1 hd hf
  go_enter Try.func85, Try.ntmps85
  go_wp2_with fail
  go_ret
  exact ⟨by rw [HR.out]; rfl, hb1⟩
set_option maxHeartbeats 400000 in
theorem takes3 (g b n : Nat) (f : Bs → Option Nat) : Takes 86 #[.pointer (some ⟨g, 0, none⟩)] (fun e => lookN f e.res) (HoldsM g b n f) (fun _ => True) := by
  refine ⟨fun z w => enters_of Try.func86 (by kernel_rfl) rfl _ w, fun _ _ k h => h.keepX k, ?_⟩
  rintro W u e _ ⟨hB, hM⟩ ⟨dv, rfl, hf, hd⟩
  show Calls Try.prog 86 #[evV e dv, .pointer (some ⟨g, 0, none⟩)] W _
  obtain ⟨Ad, cd, rfl, _, _, _⟩ := hd.open_
  have hb1 := bone W (.cells #[.string e.cas, .string e.act, .string e.res, .int .i64 e.life, .int .i64 e.time, .slice Ad e.data.length cd] 57)
  have hN1 := Blk.new W 57 #[.string e.cas, .string e.act, .string e.res, .int .i64 e.life, .int .i64 e.time, .slice Ad e.data.length cd]
  obtain ⟨q0, q1, q2, q3, q4, q5⟩ := hN1.c6
  have hc := (hB.now hb1).c1
  have hlk := (hM.now hb1).look hf.res
  have HR : Hid (lookN f e.res = (f e.res.data.toList).getD 0) := rfl
  generalize (f e.res.data.toList).getD 0 = z at *
  unfold evV
  clear hB hM hN1 hd hf
  go_enter Try.func86, Try.ntmps86
  go_wp2_with fail
  go_ret
  exact ⟨by rw [HR.out]; rfl, hb1⟩
set_option maxHeartbeats 400000 in
theorem takes4 : Takes 87 #[] (fun e => e.life.toNat) (fun _ => True) (fun e => 0 ≤ e.life) := by
  refine ⟨fun z w => enters_of Try.func87 (by kernel_rfl) rfl _ w, fun _ _ _ h => h, ?_⟩
  rintro W u e hl _ ⟨dv, rfl, hf, hd⟩
  show Calls Try.prog 87 #[evV e dv] W _
  obtain ⟨Ad, cd, rfl, _, _, _⟩ := hd.open_
  obtain ⟨z, hz⟩ : ∃ z : Nat, e.life = z := ⟨e.life.toNat, by omega⟩
  have hz2 : e.life.toNat = z := by omega
  unfold evV
  rw [hz, Int.toNat_natCast]
  have hb1 := bone W (.cells #[.string e.cas, .string e.act, .string e.res, .int .i64 z, .int .i64 e.time, .slice Ad e.data.length cd] 57)
  have hN1 := Blk.new W 57 #[.string e.cas, .string e.act, .string e.res, .int .i64 z, .int .i64 e.time, .slice Ad e.data.length cd]
  obtain ⟨q0, q1, q2, q3, q4, q5⟩ := hN1.c6
  clear hN1 hd hf hl hz hz2
  go_enter Try.func87, Try.ntmps87
  go_wp2_with fail
  go_ret
  exact ⟨rfl, hb1⟩
end Go.Proofs.Ytjglmjdfndcmmaa
