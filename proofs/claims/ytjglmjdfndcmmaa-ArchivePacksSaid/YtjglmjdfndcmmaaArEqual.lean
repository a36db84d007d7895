/- bytes.Equal, bytes.HasPrefix of slices that read as bytes. -/
import Derived.Test.YtjglmjdfndcmmaaArSum
import Derived.Test.YtjglmjdfndcmmaaShelf
import Derived.Lib.Bytes
set_option linter.all false
namespace Go.Proofs.Ytjglmjdfndcmmaa
open Go.RowKit

theorem SlC.bytesIn {D : Nat → Prop} {w : World} {A : Option Addr} {n c : Nat} {l : List UInt8} (h : SlC D w (.slice A n c) l) : n = l.length ∧ Lib.BytesIn w A n (l.map fun c => (c.toNat : Int)) := by
  obtain ⟨h1, h2⟩ := Sl.cells1 h (fun c => Value.int .u8 (c.toNat : Int)) (fun x u h => by injection h)
  refine ⟨h1, fun hn => ?_⟩
  obtain ⟨b, o, hA, _, hc⟩ := h2 hn
  refine ⟨b, o, hA, fun i hi => ?_⟩
  rw [hc i l[i] (List.getElem?_eq_getElem (by omega))]
  rw [List.getD_eq_getElem?_getD, List.getElem?_map, List.getElem?_eq_getElem (by omega : i < l.length)]
  rfl
theorem bytesOf_nat (l : List UInt8) : Lib.bytesOf (l.map fun c => (c.toNat : Int)) = l := by
  unfold Lib.bytesOf
  rw [List.map_map]
  conv => rhs; rw [← List.map_id l]
  refine List.map_congr_left fun c _ => ?_
  simp
theorem equal_any (u v : Value) (l m : List UInt8) (w : World) {D D' : Nat → Prop} (hu : SlC D w u l) (hv : SlC D' w v m) :
    Calls Try.prog 11 #[u, v] w fun e w' => e = .returned (.bool (decide (l = m))) ∧ w' = w := by
  obtain ⟨A, c, rfl, _, _, hu⟩ := hu.open_
  obtain ⟨A', c', rfl, _, _, hv⟩ := hv.open_
  refine (Try.bytes_Equal_all A A' l.length c m.length c' _ _ w (by simp) (by simp) (SlC.bytesIn hu).2 (SlC.bytesIn hv).2).mono ?_
  rintro e w' ⟨rfl, rfl⟩
  refine ⟨?_, rfl⟩
  rw [bytesOf_nat, bytesOf_nat]
  congr 2
  by_cases h : l = m
  · subst h; simp
  · simp [h]
theorem prefix_any (u v : Value) (l m : List UInt8) (w : World) {D D' : Nat → Prop} (hu : SlC D w u l) (hv : SlC D' w v m) :
    Calls Try.prog 26 #[u, v] w fun e w' => e = .returned (.bool (Lib.hasPrefix l m)) ∧ w' = w := by
  obtain ⟨A, c, rfl, hc, _, hu⟩ := hu.open_
  obtain ⟨A', c', rfl, _, _, hv⟩ := hv.open_
  refine (Try.bytes_HasPrefix_all A A' l.length c m.length c' _ _ w (by simp) (by simp) hc (SlC.bytesIn hu).2 (SlC.bytesIn hv).2).mono ?_
  rintro e w' ⟨rfl, rfl⟩
  rw [bytesOf_nat, bytesOf_nat]
  exact ⟨rfl, rfl⟩
end Go.Proofs.Ytjglmjdfndcmmaa
