/- The law: Pack and Sum are those of the reference. -/
import Derived.Test.YtjglmjdfndcmmaaArAwake
import Derived.Test.YtjglmjdfndcmmaaArSmall
import Derived.Test.YtjglmjdfndcmmaaArEqual
import Derived.Test.YtjglmjdfndcmmaaArRPack
set_option linter.all false
namespace Go.Proofs.Ytjglmjdfndcmmaa
open Go.RowKit

def YesP (w : World) (x : Ending) (w' : World) : Prop := x = .returned (.bool true) ∧ Below w.heap.size w w'
set_option maxHeartbeats 4000000 in
set_option maxRecDepth 100000 in
theorem archivePacks_law (l : List Ev) (bs : List UInt8) (u ub : Value) (w : World) (h : IsLog (Lt w.heap.size) w u l) (hu : SlC (Lt w.heap.size) w ub bs) :
    Calls Try.prog 3 #[u, ub] w (YesP w) := by
  have h0 := h
  obtain ⟨ev, rfl, hs⟩ := h
  obtain ⟨A, c, rfl, _, _, _⟩ := hs.open_
  obtain ⟨Ab, cb, rfl, hub1, hub2, hu⟩ := hu.open_
  have hb1 := bone w (.cells #[.slice A l.length c] 24)
  have hB1 := Blk.new w 24 #[.slice A l.length c]
  have HAW := Lib.hid awake_any
  have HL := Lib.hid (h0.now hb1)
  have HU := Lib.hid hu
  clear hs h0 hu
  go_enter Try.func3, Try.ntmps3
  go_wp2_with fail
  (with_reducible refine (HAW.out _).mono ?_)
  rintro e w2 ⟨rfl, hb2⟩
  have hL2 := HL.out.now hb2
  have hb12 := hb1.trans (hb2.mono hb1.size)
  have hB2 := hB1.now hb2
  have hc2 := hB2.c1
  have HSM := Lib.hid (small_any l _ w2 hL2)
  go_wp2_with fail
  (with_reducible refine HSM.out.mono ?_)
  rintro e w3 ⟨⟨q, rfl⟩, hb3⟩
  have HL3 := Lib.hid (hL2.now hb3)
  have hb13 := hb12.trans (hb3.mono hb12.size)
  have hB3 := hB2.now hb3
  have hc3 := hB3.c1
  clear HSM hL2 hB2 hc2 hb2 hb3 hb12
  cases q
  · go_wp2_with fail
    (with_reducible refine (HAW.out _).mono ?_)
    rintro e w4 ⟨rfl, hb4⟩
    go_wp2_with fail
    go_ret
    exact ⟨rfl, hb13.trans (hb4.mono hb13.size)⟩
  by_cases hbig : 2000 < bs.length
  · have hbi : (2000 : Int) < (bs.length : Int) := by omega
    go_wp2_with fail
    (with_reducible refine (HAW.out _).mono ?_)
    rintro e w4 ⟨rfl, hb4⟩
    go_wp2_with fail
    go_ret
    exact ⟨rfl, hb13.trans (hb4.mono hb13.size)⟩
  have hbi : ¬ (2000 : Int) < (bs.length : Int) := by omega
  have HPK := Lib.hid (packP_any l _ w3 HL3.out)
  have HPR := Lib.hid (fun W hW => packR l (.agg #[.slice A l.length c]) W hW)
  obtain ⟨r, k, hk⟩ : ∃ r k, packE l = (r, k) := ⟨_, _, rfl⟩
  rw [hk] at HPK HPR
  clear hk hbig
  go_wp2_with fail
  (with_reducible refine HPK.out.mono ?_)
  rintro e w4 ⟨v4, rfl, hO4, hb4⟩
  dsimp only at hO4 ⊢
  obtain ⟨A4, c4, rfl⟩ := hO4.isSlice
  have hb14 := hb13.trans (hb4.mono hb13.size)
  have hB4 := hB3.now hb4
  have hc4 := hB4.c1
  have HP2 := Lib.hid (HPR.out w4 (HL3.out.now hb4))
  have HO4 := Lib.hid hO4.slC
  clear hB3 hc3 hO4 HPK HPR hb4
  go_wp2_with fail
  (with_reducible refine HP2.out.mono ?_)
  rintro e w5 ⟨v5, rfl, hO5, hb5⟩
  dsimp only at hO5 ⊢
  obtain ⟨A5, c5, rfl⟩ := hO5.isSlice
  have hb15 := hb14.trans (hb5.mono hb14.size)
  have heq := equal_any _ _ r r w5 (HO4.out.now hb5) hO5.slC
  rw [decide_eq_true (show r = r from rfl)] at heq
  have HEQ := Lib.hid heq
  have HU5 := HU.out.now hb15
  have HS1 := Lib.hid (sum_any _ bs w5 HU5)
  have HS2 := Lib.hid (sum_ref _ bs w5 HU5)
  generalize sumOf bs = z at *
  have HB15 := Lib.hid hb15
  clear heq hO5 HU5 hb15 hb14 hb5 hB4 hc4 HP2
  go_wp2_with fail
  (with_reducible refine HEQ.out.mono ?_)
  rintro e w6 ⟨rfl, rfl⟩
  go_wp2_with fail
  (with_reducible refine HS1.out.mono ?_)
  rintro e w6 ⟨rfl, rfl⟩
  go_wp2_with fail
  (with_reducible refine HS2.out.mono ?_)
  rintro e w6 ⟨rfl, rfl⟩
  go_wp2_with fail
  go_ret
  exact ⟨rfl, HB15.out⟩
end Go.Proofs.Ytjglmjdfndcmmaa
