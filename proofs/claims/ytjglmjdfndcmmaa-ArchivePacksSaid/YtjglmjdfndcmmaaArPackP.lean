/- archive.Pack. -/
import Derived.Test.YtjglmjdfndcmmaaArPack
import Derived.Test.YtjglmjdfndcmmaaArLogV
set_option linter.all false
namespace Go.Proofs.Ytjglmjdfndcmmaa
open Go.RowKit

def packE (es : List Ev) : List UInt8 × Int := if logB es then (if 262144 < (arPack es).length then ([], 5) else (arPack es, 0)) else ([], 1)
def RetPack (base : Nat) (w : World) (r : List UInt8 × Int) (e : Ending) (w' : World) : Prop := ∃ v', e = .returned (.tuple #[v', .int .i64 r.2]) ∧ OwnC w' base v' r.1 ∧ Below w.heap.size w w'
theorem arPack_len {es : List Ev} (h : logB es = true) : (arPack es).length ≤ 4900004 := by
  have := arBody_len h
  unfold arPack
  rw [List.length_append]
  show _ + 4 ≤ _
  omega
set_option maxRecDepth 100000 in
set_option maxHeartbeats 1000000 in
theorem packP_any (es : List Ev) (u : Value) (w : World) (h : IsLog (Lt w.heap.size) w u es) :
    Calls Try.prog 9 #[u] w (RetPack w.heap.size w (packE es)) := by
  have h0 := h
  obtain ⟨ev, rfl, hs⟩ := h
  obtain ⟨A, c, rfl, _, _, _⟩ := hs.open_
  have hb1 := bone w (.cells #[.slice A es.length c] 24)
  have hB1 := Blk.new w 24 #[.slice A es.length c]
  have hc1 := hB1.c1
  have HV := Lib.hid (logValid_any es _ _ (h0.now hb1))
  cases hv : logB es
  · have HE : Hid (packE es = ([], 1)) := by show _ = _; unfold packE; rw [hv]; rfl
    rw [hv] at HV
    clear hv h0 hs
    go_enter Try.func9, Try.ntmps9
    go_wp2_with fail
    (with_reducible refine HV.out.mono ?_)
    rintro x w1 ⟨rfl, hb2⟩
    go_wp2_with fail
    go_ret2
    refine ⟨.slice none 0 0, ?_, ?_, hb1.trans (hb2.mono hb1.size)⟩
    · rw [HE.out]; rfl
    · rw [HE.out]; exact ownC_nil _ _
  · have hpl := arPack_len hv
    have HP := Lib.hid (fun W hl => pack_any es (.agg #[.slice A es.length c]) W hl hv)
    have HE : Hid (packE es = if 262144 < (arPack es).length then ([], 5) else (arPack es, 0)) := by show _ = _; unfold packE; rw [hv, if_pos rfl]
    rw [hv] at HV
    have H0 := Lib.hid h0
    clear hv h0 hs
    generalize arPack es = L at *
    go_enter Try.func9, Try.ntmps9
    go_wp2_with fail
    (with_reducible refine HV.out.mono ?_)
    rintro x w1 ⟨rfl, hb2⟩
    have hc2 := (hB1.now hb2).c1
    have hb12 := hb1.trans (hb2.mono hb1.size)
    have HP1 := Lib.hid (HP.out w1 (H0.out.now hb12))
    go_wp2_with fail
    (with_reducible refine HP1.out.mono ?_)
    rintro x w2 ⟨v2, rfl, hO, hb3⟩
    obtain ⟨A2, c2, rfl⟩ := hO.isSlice
    by_cases hbig : 262144 < L.length
    · have hbi : (262144 : Int) < (L.length : Int) := by omega
      have HE2 : Hid ((if 262144 < L.length then (([], 5) : List UInt8 × Int) else (L, 0)) = ([], 5)) := by show _ = _; rw [if_pos hbig]
      go_wp2_with fail
      go_ret2
      refine ⟨.slice none 0 0, ?_, ?_, hb12.trans (hb3.mono hb12.size)⟩
      · rw [HE.out, HE2.out]; rfl
      · rw [HE.out, HE2.out]; exact ownC_nil _ _
    · have hbi : ¬ (262144 : Int) < (L.length : Int) := by omega
      have HE2 : Hid ((if 262144 < L.length then (([], 5) : List UInt8 × Int) else (L, 0)) = (L, 0)) := by show _ = _; rw [if_neg hbig]
      go_wp2_with fail
      go_ret2
      refine ⟨.slice A2 L.length c2, ?_, ?_, hb12.trans (hb3.mono hb12.size)⟩
      · rw [HE.out, HE2.out]; rfl
      · rw [HE.out, HE2.out]
        exact ownsRow_base_a hO hb12.size
end Go.Proofs.Ytjglmjdfndcmmaa
