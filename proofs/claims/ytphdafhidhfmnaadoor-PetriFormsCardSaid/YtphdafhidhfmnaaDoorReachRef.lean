/- casebookref21.reach. -/
import Derived.Test.YtphdafhidhfmnaaDoorFormsA
import Derived.Test.YtphdafhidhfmnaaDoorReachRefSpec
import Derived.Test.YtphdafhidhfmnaaDoorRun
namespace Go.Proofs.YtphdafhidhfmnaaDoor
open Go.RowKit

def RetReach (ts : List (List Int × List Int)) (a : Int) (w : World) (e : Ending) (w' : World) : Prop := ∃ v zs, e = .returned v ∧ SlI (Lt w'.heap.size) w' v zs ∧ (∀ p, p ∈ zs ↔ Reach ts a p) ∧ Below w.heap.size w w'

structure QSt (n : Net) (a : Int) (w wr : World) (nv : Array Value) (ov : Value) (zs : List Int) : Prop where
  own : wr.ownsRow (w.heap.size + 1) 3 1 ov zs.length (zs.map (Value.int .i64))
  net : Blk wr w.heap.size 24 nv
  below : Below w.heap.size w wr
  inv : QInv (arcs false n) n.places a zs
section
variable {n : Net} {a : Int} {w wr w' : World} {nv : Array Value} {ov v' : Value} {zs : List Int}
theorem QSt.sl (h : QSt n a w wr nv ov zs) (hP : n.places ≤ 40) : SlI (Lt wr.heap.size) wr ov zs := SlI.of_own h.own (fun z hz => by have := h.inv.inP z hz; unfold Fit; omega)
theorem QSt.drawn (h : QSt n a w wr nv ov zs) (q : Nat) : QSt n a w (wr.drewN q) nv ov zs := ⟨h.own, h.net.drewN q, below_drewN h.below q, h.inv⟩
theorem QSt.len (h : QSt n a w wr nv ov zs) (h0 : 0 ≤ n.places) (hP : n.places ≤ 40) : zs.length ≤ 40 := by have := h.inv.len h0; omega
theorem QSt.push {r : Int} (h : QSt n a w wr nv ov zs) (hown : w'.ownsRow (w.heap.size + 1) 3 1 v' (zs.length + 1) (zs.map (Value.int .i64) ++ [.int .i64 r])) (hgr : wr.grownBy w' ov.ownBlock)
    (hr : zs.contains r = false) (hR : Reach (arcs false n) a r) (hi : 0 ≤ r ∧ r < n.places) : QSt n a w w' nv v' (zs ++ [r]) := by
  have hlt := h.net.lt
  have hbg : Below (w.heap.size + 1) wr w' := below_of_grown hgr (by omega) (fun g hg => (h.own.lt g hg).1)
  exact ⟨by simpa using hown, h.net.below hbg (by omega), h.below.trans (hbg.mono (by omega)), h.inv.push (by simpa using hr) hR hi⟩
end
theorem arcs_at {n : Net} {k : Nat} {t : Tr} (h : n.trans[k]? = some t) : (arcs false n)[k]? = some (t.ins, t.outs) := by unfold arcs; rw [List.getElem?_map, h]; rfl

set_option maxHeartbeats 2000000 in
set_option maxRecDepth 100000 in
theorem reach_ref (n : Net) (v : Value) (a : Int) (w : World) (h : IsNet (Lt w.heap.size) w v n) (hV : validB n = true) (ha : 0 ≤ a ∧ a < n.places) :
    Calls Tryd.prog 70 #[v, .int .i64 a] w (RetReach (arcs false n) a w) := by
  obtain ⟨v1, v2, v3, v4⟩ := validOk hV
  have HPL : Hid (∀ t ∈ n.trans, ∀ p ∈ t.outs, 0 ≤ p ∧ p < n.places) := fun t htt => places_mem (trPlaces (v4 t htt)).2
  have HA := Lib.hid ha
  clear v4 hV ha
  obtain ⟨tv, rfl, hp, hs, hkk, ht⟩ := h
  obtain ⟨A, c, rfl, h1, h2, ht⟩ := ht.open_
  go_enter Tryd.func70, Tryd.ntmps70
  have hb := bone w (.cells #[.int .i64 n.places, .slice A n.trans.length c, .int .i64 n.source, .int .i64 n.sink] 24)
  have hst : QSt n a w ((w.alloc (.cells #[.int .i64 n.places, .slice A n.trans.length c, .int .i64 n.source, .int .i64 n.sink] 24)).alloc (.cells #[.int .i64 a] 3)) #[.int .i64 n.places, .slice A n.trans.length c, .int .i64 n.source, .int .i64 n.sink] (.slice (some ⟨w.heap.size + 1, 0, none⟩) 1 1) [a] := by
    refine ⟨?_, (Blk.new w 24 _).alloc _, bbox hb _, QInv.start HA.out⟩
    have := World.ownsRow_lit (base := w.heap.size + 1) (e := 3) (size := 1) (w.alloc (.cells #[.int .i64 n.places, .slice A n.trans.length c, .int .i64 n.source, .int .i64 n.sink] 24)) #[.int .i64 a] 1 (by simp) (by unfold maxLen; omega) rfl
    simpa using this
  go_upto_region 2 with fail
  generalize (w.alloc (.cells #[.int .i64 n.places, .slice A n.trans.length c, .int .i64 n.source, .int .i64 n.sink] 24)).alloc (.cells #[.int .i64 a] 3) = w1 at *
  go_wp2_with fail
  go_loopw [5, 6] (fun ov i wr => ∃ (k : Nat) (zs : List Int), k ≤ zs.length ∧ i = .int .i64 k ∧ QSt n a w wr #[.int .i64 n.places, .slice A n.trans.length c, .int .i64 n.source, .int .i64 n.sink] ov zs ∧ DoneI (arcs false n) zs k) (fun _ i _ => 41 - (intOf i).toNat)
  case atStart => exact ⟨0, _, Nat.zero_le _, rfl, hst, fun j q hj => absurd hj (by omega)⟩
  case round =>
    clear hst
    obtain ⟨i, zs, hi, rfl, hst, hdi⟩ := hrel
    have HDI := Lib.hid hdi
    clear hdi
    obtain ⟨Az, cz, rfl, z1, z2, hzs⟩ := (hst.sl v2).open_
    have hz40 := hst.len (by omega) v2
    by_cases hlt : i < zs.length
    · obtain ⟨bz, oz, q, rfl, hDz, hq, hqf, hqc⟩ := hzs.at_ hlt
      have HQ := Lib.hid hq
      clear hq hzs hqc hDz
      go_wp2_with fail
      go_loopw [5, 7] (fun ov i7 wr => ∃ (k : Nat) (zs' : List Int), k ≤ n.trans.length ∧ i7 = .int .i64 k ∧ QSt n a w wr #[.int .i64 n.places, .slice A n.trans.length c, .int .i64 n.source, .int .i64 n.sink] ov zs' ∧ DoneI (arcs false n) zs' i ∧ DoneK (arcs false n) zs' q k ∧ zs'[i]? = some q ∧ i < zs'.length) (fun _ i _ => n.trans.length - (intOf i).toNat)
      case atStart => exact ⟨0, zs, Nat.zero_le _, rfl, hst, HDI.out, fun j t hj => absurd hj (by omega), HQ.out, hlt⟩
      case round =>
        clear hst HDI HQ
        obtain ⟨k, zs', hk, rfl, hst, hdi, hdk, hq, hil⟩ := hrel
        have HDI := Lib.hid hdi
        have HDK := Lib.hid hdk
        have HQ := Lib.hid hq
        clear hdi hdk hq
        obtain ⟨Az', cz', rfl, z1', z2', hzs⟩ := (hst.sl v2).open_
        obtain ⟨n0, n1, n2, n3⟩ := hst.net.c4
        by_cases hkl : k < n.trans.length
        · obtain ⟨b, o, t, iv, ovv, rfl, hD, hx, hlb, hti, hto, d0, d1, d2⟩ := ht.at_ hkl
          have HX := Lib.hid hx
          obtain ⟨Ai, ci, rfl, i1', i2', hti⟩ := hti.open_
          obtain ⟨Ao, co, rfl, o1', o2', hto⟩ := hto.open_
          have HDC : Hid (∀ W, Below w.heap.size w W → W.cell? ⟨b, o + k * 3, none⟩ = some (.string t.label) ∧ W.cell? ⟨b, o + k * 3 + 1, none⟩ = some (.slice Ai t.ins.length ci) ∧ W.cell? ⟨b, o + k * 3 + 2, none⟩ = some (.slice Ao t.outs.length co)) :=
            fun W hW => ⟨(hW.cell (p := ⟨b, o + k * 3, none⟩) hD).trans d0, (hW.cell (p := ⟨b, o + k * 3 + 1, none⟩) hD).trans d1, (hW.cell (p := ⟨b, o + k * 3 + 2, none⟩) hD).trans d2⟩
          clear hx d0 d1 d2
          obtain ⟨d0, d1, d2⟩ := HDC.out _ hst.below
          obtain ⟨bq, oq, q', rfl, hDq, hq', hqf', hqc⟩ := hzs.at_ hil
          obtain rfl : q' = q := by have := HQ.out; rw [hq'] at this; injection this
          clear hq' hqf'
          have i1 : (k : Int) < (n.trans.length : Int) := by omega
          have i2 : (i : Int) < (zs'.length : Int) := by omega
          have i3 : (0 : Int) ≤ k := by omega
          have i4 : (0 : Int) ≤ i := by omega
          have htir := hti.now hst.below
          generalize hqi : t.ins.contains q' = qi
          have HC : Hid (∀ m : Nat, Calls Tryd.prog 58 #[.slice Ai t.ins.length ci, .int .i64 q'] (wr.drewN m) fun e w' => e = .returned (.bool qi) ∧ ∃ m', w' = (wr.drewN m).drewN m') :=
            fun m => (has_ref _ t.ins q' (wr.drewN m) htir).mono fun e w' ⟨he, hw⟩ => ⟨by rw [he, hqi], 0, hw.symm⟩
          have HQI := Lib.hid hqi
          clear hqi htir
          cases qi
          · go_wp2
            go_quiet ((go_at_call 58; (with_reducible exact Calls.quiet_of (HC.out _))))
            go_wp2
            go_roundw
            case rel =>
              refine ⟨k + 1, zs', by omega, by go_num, hst.drawn _, HDI.out, HDK.out.next (arcs_at HX.out) (fun hm => ?_), HQ.out, hil⟩
              have := HQI.out
              have hm' : q' ∈ t.ins := hm
              rw [List.contains_iff_mem.2 hm'] at this
              cases this
            case measure => simp [intOf]; omega
          · go_wp2
            go_quiet ((go_at_call 58; (with_reducible exact Calls.quiet_of (HC.out _))))
            go_wp2_with fail
            clear HC n0 n1 n2 n3 d0 d1 d2 hqc hzs
            go_loopw [5, 8] (fun ov i8 wr => ∃ (j : Nat) (zs' : List Int), j ≤ t.outs.length ∧ i8 = .int .i64 j ∧ QSt n a w wr #[.int .i64 n.places, .slice (some ⟨b, o, none⟩) n.trans.length c, .int .i64 n.source, .int .i64 n.sink] ov zs' ∧ DoneI (arcs false n) zs' i ∧ DoneK (arcs false n) zs' q' k ∧ zs'[i]? = some q' ∧ i < zs'.length ∧ ∀ r ∈ t.outs.take j, r ∈ zs') (fun _ i _ => t.outs.length - (intOf i).toNat)
            case atStart => exact ⟨0, zs', Nat.zero_le _, rfl, hst.drawn _, HDI.out, HDK.out, HQ.out, hil, fun r hr => by simp at hr⟩
            case round =>
              clear hst HDI HDK HQ hil
              obtain ⟨j, zs', hj, rfl, hst, hdi, hdk, hq, hil, htk⟩ := hrel
              have HDI := Lib.hid hdi
              have HDK := Lib.hid hdk
              have HQ := Lib.hid hq
              have HTK := Lib.hid htk
              clear hdi hdk hq htk
              have hsl := hst.sl v2
              have hzl := hst.len (by omega) v2
              obtain ⟨n0, n1, n2, n3⟩ := hst.net.c4
              obtain ⟨d0, d1, d2⟩ := HDC.out _ hst.below
              by_cases hjl : j < t.outs.length
              · obtain ⟨br, or_, r, rfl, hDr, hr, hrf, hrc⟩ := (hto.now hst.below).at_ hjl
                have HR := Lib.hid hr
                clear hr
                have hszl := hst.below.size
                have hnl := hst.net.lt
                go_wp2_with fail
                refine (has_ref _ zs' r _ hsl).mono ?_
                rintro e w' ⟨rfl, rfl⟩
                generalize hqr : zs'.contains r = qr
                have HQR := Lib.hid hqr
                clear hqr
                cases qr
                · have hown := hst.own
                  have hw1l : w.heap.size + 1 ≤ wr.heap.size := by omega
                  go_wp2_with (at_builtin; refine wpList_push appInts rfl (.tmp 59) (.tmp 69) rfl wr [.int .i64 r] rfl (by simp [Value.oneCell']) _ zs'.length (zs'.map (Value.int .i64)) rfl hown rfl (by omega) hw1l ?_; intro v' w' hown' hgr hat)
                  go_roundw
                  case rel =>
                    have hrm : r ∈ t.outs := List.mem_of_getElem? HR.out
                    have htm : t ∈ n.trans := List.mem_of_getElem? HX.out
                    have hRr : Reach (arcs false n) a r := Reach.step (t := (t.ins, t.outs)) (List.mem_of_getElem? (arcs_at HX.out)) (List.contains_iff_mem.1 HQI.out) (hst.inv.ok q' (List.mem_of_getElem? HQ.out)) hrm
                    refine ⟨j + 1, zs' ++ [r], by omega, by go_num, hst.push hown' hgr HQR.out hRr (HPL.out t htm r hrm), HDI.out.push (by omega) r, HDK.out.push r, ?_, ?_, ?_⟩
                    · rw [List.getElem?_append_left hil]; exact HQ.out
                    · rw [List.length_append]; omega
                    · intro x hx
                      rw [List.take_add_one, HR.out] at hx
                      rcases List.mem_append.1 hx with hx | hx
                      · simp [HTK.out x hx]
                      · simp at hx; simp [hx]
                  case measure => simp [intOf]; omega
                · go_wp2_with fail
                  go_roundw
                  case rel =>
                    refine ⟨j + 1, zs', by omega, by go_num, hst, HDI.out, HDK.out, HQ.out, hil, ?_⟩
                    intro x hx
                    rw [List.take_add_one, HR.out] at hx
                    rcases List.mem_append.1 hx with hx | hx
                    · exact HTK.out x hx
                    · simp at hx; rw [hx]; exact List.contains_iff_mem.1 HQR.out
                  case measure => simp [intOf]; omega
              · go_wp2_with fail
                go_roundw
                case rel =>
                  refine ⟨k + 1, zs', by omega, by go_num, hst, HDI.out, HDK.out.next (arcs_at HX.out) (fun _ r hr => ?_), HQ.out, hil⟩
                  have := HTK.out r
                  rw [List.take_of_length_le (by omega)] at this
                  exact this hr
                case measure => simp [intOf]; omega
        · go_wp2_with fail
          go_roundw
          case rel =>
            refine ⟨i + 1, zs', by omega, by go_num, hst, HDI.out.next HQ.out ?_⟩
            have : k = (arcs false n).length := by unfold arcs; rw [List.length_map]; omega
            rw [← this]
            exact HDK.out
          case measure =>
            have := hst.len (by omega) v2
            simp [intOf]; omega
    · obtain rfl : i = zs.length := by omega
      go_wp2_with fail
      go_ret
      exact ⟨_, zs, rfl, hst.sl v2, fun p => hst.inv.done HDI.out p, hst.below⟩
end Go.Proofs.YtphdafhidhfmnaaDoor
