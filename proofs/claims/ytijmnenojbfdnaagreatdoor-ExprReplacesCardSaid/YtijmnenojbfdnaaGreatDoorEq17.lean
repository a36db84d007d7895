/- Texts of this seat, merged. -/
import Derived.Deep.RegionHeld3
import Derived.Test.YtijmnenojbfdnaaGreatDoorEq01
import Derived.Test.YtijmnenojbfdnaaGreatDoorEq02
import Derived.Test.YtijmnenojbfdnaaGreatDoorEq03
import Derived.Test.YtijmnenojbfdnaaGreatDoorEq04
import Derived.Test.YtijmnenojbfdnaaGreatDoorEq05
import Derived.Test.YtijmnenojbfdnaaGreatDoorEq06
import Derived.Test.YtijmnenojbfdnaaGreatDoorEq07
import Derived.Test.YtijmnenojbfdnaaGreatDoorEq08
import Derived.Test.YtijmnenojbfdnaaGreatDoorEq09
import Derived.Test.YtijmnenojbfdnaaGreatDoorEq10
import Derived.Test.YtijmnenojbfdnaaGreatDoorEq11
import Derived.Test.YtijmnenojbfdnaaGreatDoorEq12
import Derived.Test.YtijmnenojbfdnaaGreatDoorEq15
import Derived.Test.YtijmnenojbfdnaaGreatDoorEq16
set_option linter.unusedSimpArgs false
set_option linter.unusedVariables false
namespace Go.Proofs.YtijmnenojbfdnaaGreatDoor
open Go.RowKit
theorem SlTk.at_ {D : Nat → Prop} {w : World} {A : Option Addr} {n c k : Nat} {L : List Tok} (h : SlTk D w (.slice A n c) L) (hk : k < n) :
    ∃ b o x, A = some ⟨b, o, none⟩ ∧ D b ∧ L[k]? = some x ∧ w.cell? ⟨b, o + k * 5, none⟩ = some (.int .i64 x.kind) ∧ w.cell? ⟨b, o + k * 5 + 1, none⟩ = some (.string x.text) ∧ w.cell? ⟨b, o + k * 5 + 2, none⟩ = some (.int .i64 x.n) ∧ w.cell? ⟨b, o + k * 5 + 3, none⟩ = some (.int .i64 1) ∧ w.cell? ⟨b, o + k * 5 + 4, none⟩ = some (.int .i64 x.col) := by
  obtain ⟨A', c', hv, h1, h2, h3⟩ := h
  injection hv with hA hn hc
  subst hA hn hc
  obtain ⟨b, o, cs, hA, hD, hl, hr, hcell⟩ := h3 k L[k] (List.getElem?_eq_getElem hk)
  have hr : cs = tokV L[k] := hr
  subst hr
  exact ⟨b, o, L[k], hA, hD, List.getElem?_eq_getElem hk, hcell 0 _ rfl, hcell 1 _ rfl, hcell 2 _ rfl, hcell 3 _ rfl, hcell 4 _ rfl⟩
def IsPs (w : World) (g : Nat) (A : Option Addr) (c : Nat) (L : List Tok) (i : Nat) : Prop := Blk w g 114 #[.slice A L.length c, .int .i64 (i : Int), .bool false]
set_option maxHeartbeats 2000000 in
set_option maxRecDepth 100000 in
theorem is_any (g : Nat) (A : Option Addr) (c : Nat) (L : List Tok) (i : Nat) (s : ByteArray) (w : World) (hi : i < L.length) (D : Nat → Prop) (hl : SlTk D w (.slice A L.length c) L) (h : IsPs w g A c L i) :
    Calls Tryz.prog 166 #[.pointer (some ⟨g, 0, none⟩), .string s] w fun e w' => e = .returned (.bool (isB L i s)) ∧ Below w.heap.size w w' := by
  have h' : Blk w g 114 #[.slice A L.length c, .int .i64 (i : Int), .bool false] := h
  obtain ⟨c0, c1, c2⟩ := h'.c3
  obtain ⟨b, o, t, rfl, _, hx, t0, t1, t2, t3, t4⟩ := SlTk.at_ hl hi
  have HB : Hid (isB L i s = (decide (t.text = s) && (decide (t.kind = 4) || decide (t.kind = 1)))) := by show _ = _; unfold isB; rw [hx]
  have i1 : (0 : Int) ≤ (i : Int) := by omega
  have i2 : (i : Int) < (L.length : Int) := by omega
  have hb := bone w (.cells #[.int .i64 t.kind, .string t.text, .int .i64 t.n, .int .i64 1, .int .i64 t.col] 117)
  have hK := Blk.new w 117 #[.int .i64 t.kind, .string t.text, .int .i64 t.n, .int .i64 1, .int .i64 t.col]
  have hP := h'.now hb
  have hb0 := bone w (.cells #[.int .i64 0, .string ⟨#[]⟩, .int .i64 0, .int .i64 0, .int .i64 0] 117)
  obtain ⟨z0, z1, z2⟩ := (h'.now hb0).c3
  have hbl : b < w.heap.size := World.block_lt_of_cell? _ _ t0
  have y0 := (hb0.cell (p := ⟨b, o + i * 5, none⟩) hbl).trans t0
  have y1 := (hb0.cell (p := ⟨b, o + i * 5 + 1, none⟩) hbl).trans t1
  have y2 := (hb0.cell (p := ⟨b, o + i * 5 + 2, none⟩) hbl).trans t2
  have y3 := (hb0.cell (p := ⟨b, o + i * 5 + 3, none⟩) hbl).trans t3
  have y4 := (hb0.cell (p := ⟨b, o + i * 5 + 4, none⟩) hbl).trans t4
  clear hx hl h
  go_enter Tryz.func166, Tryz.ntmps166
  go_upto_region 1 with fail
  go_region
  have hbd := hb.drew
  obtain ⟨k0, k1, k2, k3, k4⟩ := hK.drew.c5
  obtain ⟨p0, p1, p2⟩ := hP.drew.c3
  generalize hw1 : (w.alloc (.cells #[.int .i64 t.kind, .string t.text, .int .i64 t.n, .int .i64 1, .int .i64 t.col] 117)).drew = w1 at *
  clear hw1 c0 c1 c2 t0 t1 t2 t3 t4 z0 z1 z2 y0 y1 y2 y3 y4 hK hP hb hb0
  by_cases he : t.text = s
  · subst he
    by_cases h4 : t.kind = 4
    · have d4 : (t.kind == 4) = true := by simpa using h4
      have HR : Hid (isB L i t.text = true) := by show _ = _; rw [HB.out]; simp [h4]
      clear h4
      go_wp2_with fail
      go_ret
      exact ⟨ret_bool HR.out.symm, hbd⟩
    · have d4 : (t.kind == 4) = false := by simpa using h4
      by_cases h1 : t.kind = 1
      · have d1 : (t.kind == 1) = true := by simpa using h1
        have HR : Hid (isB L i t.text = true) := by show _ = _; rw [HB.out]; simp [h1]
        clear h4 h1
        go_wp2_with fail
        go_ret
        exact ⟨ret_bool HR.out.symm, hbd⟩
      · have d1 : (t.kind == 1) = false := by simpa using h1
        have HR : Hid (isB L i t.text = false) := by show _ = _; rw [HB.out]; simp [h1, h4]
        clear h4 h1
        go_wp2_with fail
        go_ret
        exact ⟨ret_bool HR.out.symm, hbd⟩
  · have HR : Hid (isB L i s = false) := by show _ = _; rw [HB.out]; simp [he]
    have he2 : ¬ t.text.toList = s.toList := fun h => he (by
      apply ByteArray.ext
      apply Array.ext'
      rw [← lexEmpty, ← lexEmpty, h])
    go_wp2_with fail
    go_ret
    exact ⟨ret_bool HR.out.symm, hbd⟩
theorem IsPs.now {w w' : World} {g c i : Nat} {A : Option Addr} {L : List Tok} (h : IsPs w g A c L i) (hb : Below w.heap.size w w') : IsPs w' g A c L i := Blk.now h hb
set_option maxHeartbeats 2000000 in
set_option maxRecDepth 100000 in
theorem take_any (g : Nat) (A : Option Addr) (c : Nat) (L : List Tok) (i : Nat) (s : ByteArray) (w : World) (hi : i < L.length) (D : Nat → Prop) (hl : SlTk D w (.slice A L.length c) L) (hL : L.length ≤ 1000) (h : IsPs w g A c L i) :
    Calls Tryz.prog 119 #[.pointer (some ⟨g, 0, none⟩), .string s] w fun e w' => e = .returned (.bool (isB L i s)) ∧ IsPs w' g A c L (if isB L i s then i + 1 else i) ∧ w.grownBy w' (some g) := by
  have HI := Lib.hid (is_any g A c L i s w hi D hl h)
  obtain ⟨q, hq⟩ : ∃ q, isB L i s = q := ⟨_, rfl⟩
  rw [hq] at HI
  rw [hq]
  clear hq hl
  go_enter Tryz.func119, Tryz.ntmps119
  go_wp2_with fail
  refine HI.out.mono ?_
  rintro e w1 ⟨rfl, hb⟩
  have h1 : Blk w1 g 114 #[.slice A L.length c, .int .i64 (i : Int), .bool false] := IsPs.now h hb
  have hg1 := grown_of_below hb (some g)
  obtain ⟨c0, c1, c2⟩ := h1.c3
  have f1 := h1.frozen 1
  cases q
  · go_wp2_with fail
    go_ret
    exact ⟨rfl, h1, hg1⟩
  · go_wp2_with fail
    go_ret
    refine ⟨rfl, ?_, lexGrownT hg1 (lexGrownS _ _ _ _)⟩
    have e : ((i + 1 : Nat) : Int) = (i : Int) + 1 := by omega
    unfold IsPs
    rw [e]
    exact h1.set_ 1 _
set_option maxHeartbeats 2000000 in
theorem need_any (g : Nat) (A : Option Addr) (c : Nat) (L : List Tok) (i : Nat) (s : ByteArray) (w : World) (hi : i < L.length) (D : Nat → Prop) (hl : SlTk D w (.slice A L.length c) L) (hL : L.length ≤ 1000) (h : IsPs w g A c L i) (hq : isB L i s = true) :
    Calls Tryz.prog 120 #[.pointer (some ⟨g, 0, none⟩), .string s] w fun e w' => e = .returned (.tuple #[]) ∧ IsPs w' g A c L (i + 1) ∧ w.grownBy w' (some g) := by
  have ht := take_any g A c L i s w hi D hl hL h
  rw [hq] at ht
  have HT := Lib.hid ht
  clear ht hq hl
  go_enter Tryz.func120, Tryz.ntmps120
  go_wp2_with fail
  refine HT.out.mono ?_
  rintro e w1 ⟨rfl, h1, hg1⟩
  go_wp2_with fail
  go_end0
  exact ⟨rfl, h1, hg1⟩
theorem sign_any (k : Nat) (s : ByteArray) (w : World) (h : signL[k]? = some s) :
    Calls Tryz.prog 95 #[.int .i64 ((k + 4 : Nat) : Int)] w fun e w' => e = .returned (.string s) ∧ w = w' := by
  match k, h with
  | 0, h => injection h with h; subst h; go_enter Tryz.func95, Tryz.ntmps95; go_wp2_with fail; go_ret; exact ⟨rfl, rfl⟩
  | 1, h => injection h with h; subst h; go_enter Tryz.func95, Tryz.ntmps95; go_wp2_with fail; go_ret; exact ⟨rfl, rfl⟩
  | 2, h => injection h with h; subst h; go_enter Tryz.func95, Tryz.ntmps95; go_wp2_with fail; go_ret; exact ⟨rfl, rfl⟩
  | 3, h => injection h with h; subst h; go_enter Tryz.func95, Tryz.ntmps95; go_wp2_with fail; go_ret; exact ⟨rfl, rfl⟩
  | 4, h => injection h with h; subst h; go_enter Tryz.func95, Tryz.ntmps95; go_wp2_with fail; go_ret; exact ⟨rfl, rfl⟩
  | 5, h => injection h with h; subst h; go_enter Tryz.func95, Tryz.ntmps95; go_wp2_with fail; go_ret; exact ⟨rfl, rfl⟩
  | 6, h => injection h with h; subst h; go_enter Tryz.func95, Tryz.ntmps95; go_wp2_with fail; go_ret; exact ⟨rfl, rfl⟩
  | 7, h => injection h with h; subst h; go_enter Tryz.func95, Tryz.ntmps95; go_wp2_with fail; go_ret; exact ⟨rfl, rfl⟩
  | k + 8, h => simp [signL] at h
set_option maxHeartbeats 2000000 in
theorem level_any (k : Nat) (w : World) (h : k ≤ 13) :
    Calls Tryz.prog 91 #[.int .i64 (k : Int)] w fun e w' => e = .returned (.int .i64 (levB k : Int)) ∧ w = w' := by
  match k, h with
  | 0, _ | 1, _ | 2, _ | 3, _ | 4, _ | 5, _ | 6, _ | 7, _ | 8, _ | 9, _ | 10, _ | 11, _ | 12, _ | 13, _ =>
    go_enter Tryz.func91, Tryz.ntmps91
    go_wp2_with fail
    go_ret
    exact ⟨rfl, rfl⟩
  | k + 14, h => omega
theorem opB_at {L : List Tok} {i k : Nat} {s : ByteArray} (h0 : isB L i kIn = false) (hs : signL[k]? = some s) (hn : ∀ j y, j < k → signL[j]? = some y → isB L i y = false) (hq : isB L i s = true) : opB L i = k + 4 := by
  have hf : signL.findIdx? (isB L i) = some k := by
    rw [List.findIdx?_eq_some_iff_getElem]
    have hk : k < signL.length := (List.getElem?_eq_some_iff.1 hs).1
    refine ⟨hk, ?_, fun j hj => ?_⟩
    · have : signL[k] = s := (List.getElem?_eq_some_iff.1 hs).2
      rw [this]; exact hq
    · have := hn j _ hj (List.getElem?_eq_getElem (by omega))
      simpa using this
  unfold opB
  rw [h0, hf]
  rfl
theorem opB_none {L : List Tok} {i : Nat} (h0 : isB L i kIn = false) (hn : ∀ j y, j < 8 → signL[j]? = some y → isB L i y = false) : opB L i = 0 := by
  have hf : signL.findIdx? (isB L i) = none := by
    rw [List.findIdx?_eq_none_iff]
    intro x hx
    obtain ⟨j, hj, rfl⟩ := List.mem_iff_getElem.1 hx
    exact hn j _ hj (List.getElem?_eq_getElem hj)
  unfold opB
  rw [h0, hf]
  rfl
set_option maxHeartbeats 2000000 in
set_option maxRecDepth 100000 in
theorem operator_any (g : Nat) (A : Option Addr) (c : Nat) (L : List Tok) (i : Nat) (w : World) (hi : i < L.length) (B : Nat) (hB : B ≤ w.heap.size) (hl : SlTk (Lt B) w (.slice A L.length c) L) (h : IsPs w g A c L i) :
    Calls Tryz.prog 123 #[.pointer (some ⟨g, 0, none⟩)] w fun e w' => e = .returned (.int .i64 (opB L i : Int)) ∧ Below w.heap.size w w' := by
  have HIS := Lib.hid (fun s W (hb : Below w.heap.size w W) => is_any g A c L i s W hi (Lt B) (Sl.below hl RTok.kept (hb.mono hB) (Nat.le_refl _)) (IsPs.now h hb))
  obtain ⟨q, hq⟩ : ∃ q, isB L i kIn = q := ⟨_, rfl⟩
  have HQ := Lib.hid hq
  have h0 := HIS.out kIn w (Below.refl _ _)
  rw [hq] at h0
  have H0 := Lib.hid h0
  clear hq h0 hl h
  unfold kIn at H0
  go_enter Tryz.func123, Tryz.ntmps123
  go_wp2_with fail
  refine H0.out.mono ?_
  rintro e w1 ⟨rfl, hb1⟩
  cases q
  rotate_left
  · have HR : Hid (opB L i = 13) := by show _ = _; unfold opB; rw [HQ.out]; rfl
    go_wp2_with fail
    go_ret
    exact ⟨ret_int (by rw [HR.out]; rfl), hb1⟩
  go_wp2_with fail
  go_loopw [3] (fun ov wr => ∃ k : Nat, k ≤ 8 ∧ ov = .int .i64 ((k + 4 : Nat) : Int) ∧ Hid (∀ j y, j < k → signL[j]? = some y → isB L i y = false) ∧ Below w.heap.size w wr) (fun ov _ => 12 - (intOf ov).toNat)
  case atStart => exact ⟨0, Nat.zero_le _, rfl, (by show ∀ _ _, _; intro j y hj; omega), hb1⟩
  case round =>
    obtain ⟨k, hk, rfl, HN, hb⟩ := hrel
    by_cases hlt : k < 8
    · have hs : ∃ s, signL[k]? = some s := ⟨_, List.getElem?_eq_getElem (show k < signL.length from hlt)⟩
      obtain ⟨s, hs⟩ := hs
      have a1 : ((k + 4 : Nat) : Int) ≤ 11 := by omega
      have HS := Lib.hid (sign_any k s wr hs)
      have hss := HIS.out s wr hb
      obtain ⟨q, hq⟩ : ∃ q, isB L i s = q := ⟨_, rfl⟩
      rw [hq] at hss
      have HSS := Lib.hid hss
      have HQ2 := Lib.hid hq
      have HSG := Lib.hid hs
      clear hq hss hs
      obtain ⟨v, hv⟩ : ∃ v : Int, ((k + 4 : Nat) : Int) = v := ⟨_, rfl⟩
      rw [hv] at HS a1 ⊢
      have HV := Lib.hid hv
      have a3 : v + 1 = ((k + 1 + 4 : Nat) : Int) := by omega
      have HV3 := Lib.hid a3
      have a2 : 0 ≤ v := by omega
      clear hv a3
      go_wp2_with fail
      refine HS.out.mono ?_
      rintro e w2 ⟨rfl, rfl⟩
      go_wp2_with fail
      refine HSS.out.mono ?_
      rintro e w3 ⟨rfl, hb3⟩
      cases q
      · go_wp2_with fail
        go_roundw
        case rel =>
          refine ⟨k + 1, by omega, by rw [HV3.out], ?_, hb.trans (hb3.mono hb.size)⟩
          show ∀ _ _, _
          intro j y hj hy
          by_cases e : j = k
          · subst e
            rw [HSG.out] at hy
            injection hy with hy
            subst hy
            exact HQ2.out
          · exact HN.out j y (by omega) hy
        case measure => simp [intOf]; omega
      · have HR := Lib.hid (opB_at HQ.out HSG.out HN.out HQ2.out)
        go_wp2_with fail
        go_ret
        exact ⟨ret_int (by rw [HR.out]; exact HV.out.symm), hb.trans (hb3.mono hb.size)⟩
    · have hk8 : k = 8 := by omega
      subst hk8
      have HR := Lib.hid (opB_none HQ.out HN.out)
      go_wp2_with fail
      go_ret
      exact ⟨ret_int (by rw [HR.out]; rfl), hb⟩
end Go.Proofs.YtijmnenojbfdnaaGreatDoor

namespace Go.Proofs.YtijmnenojbfdnaaGreatDoor
open Go.RowKit
section
variable {w w1 : World} {B g : Nat} {t : TypeId} {a b c d e f : Value}
theorem Blk.set6' (h : Blk w g t #[a, b, c, d, e, f]) (a' b' c' d' e' f' : Value) : Blk ((((((w.setCell ⟨g, 0, none⟩ a').setCell ⟨g, 1, none⟩ b').setCell ⟨g, 2, none⟩ c').setCell ⟨g, 3, none⟩ d').setCell ⟨g, 4, none⟩ e').setCell ⟨g, 5, none⟩ f') g t #[a', b', c', d', e', f'] :=
  (((((h.set_ 0 a').set_ 1 b').set_ 2 c').set_ 3 d').set_ 4 e').set_ 5 f'
theorem grown6' {row : Option Nat} (h : w.grownBy w1 row) (hg : w.heap.size ≤ g) (a b c d e f : Value) : w.grownBy ((((((w1.setCell ⟨g, 0, none⟩ a).setCell ⟨g, 1, none⟩ b).setCell ⟨g, 2, none⟩ c).setCell ⟨g, 3, none⟩ d).setCell ⟨g, 4, none⟩ e).setCell ⟨g, 5, none⟩ f) row := by
  have key : ∀ (w2 : World) (i : Nat) (u : Value), w.grownBy w2 row → w.grownBy (w2.setCell ⟨g, i, none⟩ u) row := fun w2 i u h2 =>
    ⟨h2.os, h2.tape, h2.output, by simpa using h2.size, fun j hj hne => (Below.heap_setCell w2 ⟨g, i, none⟩ u j (show j ≠ g by omega)).trans (h2.block j hj hne)⟩
  exact key _ _ _ (key _ _ _ (key _ _ _ (key _ _ _ (key _ _ _ (key _ _ _ h)))))
theorem grownF {row : Option Nat} (h : w.grownBy w1 row) (hg : w.heap.size ≤ g) (i : Nat) (u : Value) : w.grownBy (w1.setCell ⟨g, i, none⟩ u) row :=
  ⟨h.os, h.tape, h.output, by simpa using h.size, fun j hj hne => (Below.heap_setCell w1 ⟨g, i, none⟩ u j (show j ≠ g by omega)).trans (h.block j hj hne)⟩
theorem Blk.far3 {g' : Nat} {cs : Array Value} (h : Blk w g' t cs) (hne : g' ≠ g) (a b c : Value) : Blk (((w.setCell ⟨g, 0, none⟩ a).setCell ⟨g, 1, none⟩ b).setCell ⟨g, 2, none⟩ c) g' t cs :=
  ((h.far (p := ⟨g, 0, none⟩) hne _).far (p := ⟨g, 1, none⟩) hne _).far (p := ⟨g, 2, none⟩) hne _
theorem Blk.far6 {g' : Nat} {cs : Array Value} (h : Blk w g' t cs) (hne : g' ≠ g) (a b c d e f : Value) : Blk ((((((w.setCell ⟨g, 0, none⟩ a).setCell ⟨g, 1, none⟩ b).setCell ⟨g, 2, none⟩ c).setCell ⟨g, 3, none⟩ d).setCell ⟨g, 4, none⟩ e).setCell ⟨g, 5, none⟩ f) g' t cs :=
  (((((h.far (p := ⟨g, 0, none⟩) hne _).far (p := ⟨g, 1, none⟩) hne _).far (p := ⟨g, 2, none⟩) hne _).far (p := ⟨g, 3, none⟩) hne _).far (p := ⟨g, 4, none⟩) hne _).far (p := ⟨g, 5, none⟩) hne _
end
def zeroXs : Array Value := #[.int .i64 0, .int .i64 0, .int .i64 0, .string ⟨#[]⟩, .string ⟨#[]⟩, .slice none 0 0]
def numXs (n : Int) : Array Value := #[.int .i64 1, .int .i64 2, .int .i64 n, .string ⟨#[]⟩, .string ⟨#[]⟩, .slice none 0 0]
def RetCon (g : Nat) (A : Option Addr) (c : Nat) (L : List Tok) (i : Nat) (r : Option (Ex × Nat)) (w : World) (e : Ending) (w' : World) : Prop :=
  (match r with
  | some (x, i') => ∃ n, x = .mk 1 ⟨2, n, ⟨#[]⟩⟩ ⟨#[]⟩ [] ∧ e = .returned (.tuple #[.agg (numXs n), .bool true]) ∧ IsPs w' g A c L i' ∧ (∃ t, L[i]? = some t ∧ t.n = n)
  | none => e = .returned (.tuple #[.agg zeroXs, .bool false]) ∧ IsPs w' g A c L i) ∧ w.grownBy w' (some g)
set_option maxHeartbeats 4000000 in
set_option maxRecDepth 100000 in
theorem constant_any (g : Nat) (A : Option Addr) (c : Nat) (L : List Tok) (i : Nat) (r : Option (Ex × Nat)) (w : World) (hi : i < L.length) (hL : L.length ≤ 1000) (B : Nat) (hB : B ≤ w.heap.size) (hl : SlTk (Lt B) w (.slice A L.length c) L) (h : IsPs w g A c L i) (hr : conB L i = some r) :
    Calls Tryz.prog 167 #[.pointer (some ⟨g, 0, none⟩)] w (RetCon g A c L i r w) := by
  have hb1 := bbox (bone w (.cells zeroXs 28)) (.cells #[.int .i64 0, .int .i64 0, .string ⟨#[]⟩] 25)
  have hR1 := (Blk.new w 28 zeroXs).alloc (.cells #[.int .i64 0, .int .i64 0, .string ⟨#[]⟩] 25)
  have hV1 := Blk.new_at (t := 25) (cs := #[.int .i64 0, .int .i64 0, .string ⟨#[]⟩]) (w := w.alloc (.cells zeroXs 28)) (s := w.heap.size + 1) (World.size_alloc _ _)
  have hsz1 : ((w.alloc (.cells zeroXs 28)).alloc (.cells #[.int .i64 0, .int .i64 0, .string ⟨#[]⟩] 25)).heap.size = w.heap.size + 2 := by rw [World.size_alloc, World.size_alloc]
  have hglt : g < w.heap.size := Blk.lt h
  obtain ⟨c0, c1, c2⟩ := (show Blk w g 114 #[.slice A L.length c, .int .i64 (i : Int), .bool false] from h).c3
  unfold zeroXs at hb1 hR1 hV1 hsz1
  go_enter Tryz.func167, Tryz.ntmps167
  go_upto_region 4 with fail
  generalize hw1 : ((w.alloc (.cells #[.int .i64 0, .int .i64 0, .int .i64 0, .string ⟨#[]⟩, .string ⟨#[]⟩, .slice none 0 0] 28)).alloc (.cells #[.int .i64 0, .int .i64 0, .string ⟨#[]⟩] 25)) = w1 at *
  have h1 : Blk w1 g 114 #[.slice A L.length c, .int .i64 (i : Int), .bool false] := IsPs.now h hb1
  have hl1 := Sl.below hl RTok.kept (hb1.mono hB) (Nat.le_refl _)
  have HSZ := Lib.hid hsz1
  clear hw1 c0 c1 c2 h hl hsz1
  obtain ⟨b, o, t, rfl, _, hx, t0, t1, t2, t3, t4⟩ := SlTk.at_ hl1 hi
  have i1 : (0 : Int) ≤ (i : Int) := by omega
  have i2 : (i : Int) < (L.length : Int) := by omega
  obtain ⟨c0, c1, c2⟩ := h1.c3
  have hb0 := bone w1 (.cells #[.int .i64 0, .string ⟨#[]⟩, .int .i64 0, .int .i64 0, .int .i64 0] 117)
  obtain ⟨z0, z1, z2⟩ := (h1.now hb0).c3
  have hbl : b < w1.heap.size := World.block_lt_of_cell? _ _ t0
  have y0 := (hb0.cell (p := ⟨b, o + i * 5, none⟩) hbl).trans t0
  have y1 := (hb0.cell (p := ⟨b, o + i * 5 + 1, none⟩) hbl).trans t1
  have y2 := (hb0.cell (p := ⟨b, o + i * 5 + 2, none⟩) hbl).trans t2
  have y3 := (hb0.cell (p := ⟨b, o + i * 5 + 3, none⟩) hbl).trans t3
  have y4 := (hb0.cell (p := ⟨b, o + i * 5 + 4, none⟩) hbl).trans t4
  have hbt := (bone w1 (.cells #[.int .i64 t.kind, .string t.text, .int .i64 t.n, .int .i64 1, .int .i64 t.col] 117)).drew
  have hT2 := (Blk.new w1 117 #[.int .i64 t.kind, .string t.text, .int .i64 t.n, .int .i64 1, .int .i64 t.col]).drew
  have hR2 := hR1.now hbt
  have hV2 := hV1.now hbt
  have h2 := h1.now hbt
  have hl2 := Sl.below hl1 RTok.kept (hbt.mono (Nat.le_trans hB hb1.size)) (Nat.le_refl _)
  have hb2 := bthen hb1 hbt
  have HX := Lib.hid hx
  clear hx
  go_region
  generalize hw2 : (w1.alloc (.cells #[.int .i64 t.kind, .string t.text, .int .i64 t.n, .int .i64 1, .int .i64 t.col] 117)).drew = w2 at *
  clear hw2 hR1 hV1 h1 hl1 c0 c1 c2 z0 z1 z2 t0 t1 t2 t3 t4 y0 y1 y2 y3 y4 hb0 hbl hbt hb1
  obtain ⟨t0, t1, t2, t3, t4⟩ := hT2.c5
  unfold conB at hr
  rw [HX.out] at hr
  dsimp only at hr
  have hg2 := grown_of_below hb2 (some g)
  by_cases hk2 : t.kind = 2
  · rw [if_pos hk2] at hr
    injection hr with hr
    subst hr
    have d2 : (t.kind == 2) = true := by simpa using hk2
    clear hk2
    obtain ⟨c0, c1, c2⟩ := h2.c3
    obtain ⟨v0, v1, v2⟩ := hV2.c3
    have fv0 := hV2.frozen 0
    have fv1 := hV2.frozen 1
    have fv2 := hV2.frozen 2
    go_upto_region 22 with fail
    have hV3 : Blk (((w2.setCell ⟨w.heap.size + 1, 0, none⟩ (.int .i64 2)).setCell ⟨w.heap.size + 1, 1, none⟩ (.int .i64 t.n)).setCell ⟨w.heap.size + 1, 2, none⟩ (.string ⟨#[]⟩)) (w.heap.size + 1) 25 #[.int .i64 2, .int .i64 t.n, .string ⟨#[]⟩] := ((hV2.set_ 0 _).set_ 1 _).set_ 2 _
    have hR3 := hR2.far3 (show w.heap.size ≠ w.heap.size + 1 by omega) (.int .i64 2) (.int .i64 t.n) (.string ⟨#[]⟩)
    have h3 := h2.far3 (show g ≠ w.heap.size + 1 by omega) (.int .i64 2) (.int .i64 t.n) (.string ⟨#[]⟩)
    have hg3 := grownF (grownF (grownF hg2 (show w.heap.size ≤ w.heap.size + 1 by omega) 0 (.int .i64 2)) (show w.heap.size ≤ w.heap.size + 1 by omega) 1 (.int .i64 t.n)) (show w.heap.size ≤ w.heap.size + 1 by omega) 2 (.string ⟨#[]⟩)
    generalize hw3 : (((w2.setCell ⟨w.heap.size + 1, 0, none⟩ (.int .i64 2)).setCell ⟨w.heap.size + 1, 1, none⟩ (.int .i64 t.n)).setCell ⟨w.heap.size + 1, 2, none⟩ (.string ⟨#[]⟩)) = w3 at *
    clear hw3 hR2 hV2 h2 hl2 hb2 hT2 t0 t1 t2 t3 t4 c0 c1 c2 v0 v1 v2 fv0 fv1 fv2 hg2
    obtain ⟨c0, c1, c2⟩ := h3.c3
    have f1 := h3.frozen 1
    have e1 : ((i + 1 : Nat) : Int) = (i : Int) + 1 := by omega
    go_upto_region 23 with fail
    have h4 := h3.set_ 1 (.int .i64 ((i : Int) + 1))
    have hV4 := hV3.far (p := ⟨g, 1, none⟩) (show w.heap.size + 1 ≠ g by omega) (.int .i64 ((i : Int) + 1))
    have hR4 := hR3.far (p := ⟨g, 1, none⟩) (show w.heap.size ≠ g by omega) (.int .i64 ((i : Int) + 1))
    have hg4 := lexGrownT hg3 (lexGrownS w3 g 1 (.int .i64 ((i : Int) + 1)))
    generalize hw4 : w3.setCell ⟨g, 1, none⟩ (.int .i64 ((i : Int) + 1)) = w4 at *
    clear hw4 hV3 hR3 h3 hg3 c0 c1 c2 f1
    obtain ⟨v0, v1, v2⟩ := hV4.c3
    obtain ⟨r0, r1, r2, r3, r4, r5⟩ := hR4.c6
    have fr0 := hR4.frozen 0
    have fr1 := hR4.frozen 1
    have fr2 := hR4.frozen 2
    have fr3 := hR4.frozen 3
    have fr4 := hR4.frozen 4
    have fr5 := hR4.frozen 5
    go_wp2_with fail
    obtain ⟨s0, s1, s2, s3, s4, s5⟩ := (hR4.set6' (.int .i64 1) (.int .i64 2) (.int .i64 t.n) (.string ⟨#[]⟩) (.string ⟨#[]⟩) (.slice none 0 0)).c6
    refine bodyPost_ret (v := .tuple #[.agg (numXs t.n), .bool true]) (by simp [results, Tryz.results167, go_sem, s0, s1, s2, s3, s4, s5, numXs]) rfl ?_
    refine ⟨⟨t.n, rfl, rfl, ?_, t, HX.out, rfl⟩, grown6' hg4 (Nat.le_refl _) _ _ _ _ _ _⟩
    unfold IsPs
    rw [e1]
    exact Blk.far6 h4 (by omega) _ _ _ _ _ _
  · rw [if_neg hk2] at hr
    by_cases hk3 : t.kind = 3
    · rw [if_pos hk3] at hr; cases hr
    rw [if_neg hk3] at hr
    have hno : (isB L i kTrue || isB L i kFalse || isB L i kMinus) = false := by
      cases hq : (isB L i kTrue || isB L i kFalse || isB L i kMinus) with
      | false => rfl
      | true => rw [hq, if_pos rfl] at hr; cases hr
    rw [hno, if_neg (by simp)] at hr
    injection hr with hr
    subst hr
    rw [Bool.or_eq_false_iff, Bool.or_eq_false_iff] at hno
    obtain ⟨⟨n1, n2⟩, n3⟩ := hno
    have d2 : (t.kind == 2) = false := by simpa using hk2
    have d3 : (t.kind == 3) = false := by simpa using hk3
    have HIS := Lib.hid (fun s W (hb : Below w2.heap.size w2 W) => is_any g (some ⟨b, o, none⟩) c L i s W hi (Lt B) (Sl.below hl2 RTok.kept (hb.mono (Nat.le_trans hB hb2.size)) (Nat.le_refl _)) (IsPs.now h2 hb))
    have N1 := Lib.hid n1
    have N2 := Lib.hid n2
    have N3 := Lib.hid n3
    have hi1 := HIS.out kTrue w2 (Below.refl _ _)
    rw [n1] at hi1
    have HI1 := Lib.hid hi1
    clear hk2 hk3 n1 n2 n3 hi1 hl2
    unfold kTrue at HI1
    go_wp2_with fail
    refine HI1.out.mono ?_
    rintro e w3 ⟨rfl, hb3⟩
    have hi2 := HIS.out kFalse w3 hb3
    rw [N2.out] at hi2
    unfold kFalse at hi2
    have HI2 := Lib.hid hi2
    clear hi2 t0 t1 t2 t3 t4
    go_wp2_with fail
    refine HI2.out.mono ?_
    rintro e w4 ⟨rfl, hb4⟩
    have hb24 := bthen hb3 hb4
    have hi3 := HIS.out kMinus w4 hb24
    rw [N3.out] at hi3
    unfold kMinus at hi3
    have HI3 := Lib.hid hi3
    clear hi3
    go_wp2_with fail
    refine HI3.out.mono ?_
    rintro e w5 ⟨rfl, hb5⟩
    have hb25 := bthen hb24 hb5
    have h5 := h2.now hb25
    have hR5 := hR2.now hb25
    have hg5 := grown_of_below (bthen hb2 hb25) (some g)
    clear HIS HI1 HI2 HI3 hb3 hb4 hb24 hb5 h2 hR2 hV2 hT2 hb25 hg2 hb2
    obtain ⟨r0, r1, r2, r3, r4, r5⟩ := hR5.c6
    have fr0 := hR5.frozen 0
    have fr1 := hR5.frozen 1
    have fr2 := hR5.frozen 2
    have fr3 := hR5.frozen 3
    have fr4 := hR5.frozen 4
    have fr5 := hR5.frozen 5
    go_wp2_with fail
    obtain ⟨s0, s1, s2, s3, s4, s5⟩ := (hR5.set6' (.int .i64 0) (.int .i64 0) (.int .i64 0) (.string ⟨#[]⟩) (.string ⟨#[]⟩) (.slice none 0 0)).c6
    refine bodyPost_ret (v := .tuple #[.agg zeroXs, .bool false]) (by simp [results, Tryz.results167, go_sem, s0, s1, s2, s3, s4, s5, zeroXs]) rfl ?_
    exact ⟨⟨rfl, Blk.far6 h5 (by omega) _ _ _ _ _ _⟩, grown6' hg5 (Nat.le_refl _) _ _ _ _ _ _⟩
end Go.Proofs.YtijmnenojbfdnaaGreatDoor

namespace Go.Proofs.YtijmnenojbfdnaaGreatDoor
open Go.RowKit
def DX (q : Nat) (w : World) (b : Nat) : Prop := q < b ∧ b < w.heap.size
theorem DX.same {q g : Nat} {w w' : World} (hq : g ≤ q) (h : w.grownBy w' (some g)) : Same (DX q w) w w' := fun b hb => h.block b hb.2 (fun e => by injection e with e; have := hb.1; omega)
theorem IsEx.keepD {n : Nat} {D D' : Nat → Prop} {w w' : World} {u : Value} {x : Ex} (h : IsEx n D w u x) (hd : ∀ b, D b → D' b) (hs : Same D w w') : IsEx n D' w' u x := by
  obtain ⟨lv, e, h1, h2, h3, h4⟩ := h
  exact ⟨lv, e, h1, h2, h3, Sl.keep h4 (RExN.kept n) hd hs⟩
theorem IsEx.grownX {n q g : Nat} {w w' : World} {u : Value} {x : Ex} (h : IsEx n (DX q w) w u x) (hq : g ≤ q) (hg : w.grownBy w' (some g)) : IsEx n (DX q w') w' u x :=
  h.keepD (fun _ hb => ⟨hb.1, Nat.lt_of_lt_of_le hb.2 hg.size⟩) (DX.same hq hg)
theorem IsEx.lowX {n q q' : Nat} {w : World} {u : Value} {x : Ex} (h : IsEx n (DX q w) w u x) (hq : q' ≤ q) : IsEx n (DX q' w) w u x :=
  h.keepD (fun _ hb => ⟨Nat.lt_of_le_of_lt hq hb.1, hb.2⟩) (fun _ _ => rfl)
theorem IsEx.farX {n q : Nat} {w : World} {u : Value} {x : Ex} (h : IsEx n (DX q w) w u x) {p : Addr} (hp : p.block ≤ q) (y : Value) : IsEx n (DX q (w.setCell p y)) (w.setCell p y) u x :=
  h.keepD (fun _ hb => ⟨hb.1, by rw [World.size_setCell]; exact hb.2⟩) (fun b hb => Below.heap_setCell w p y b (fun e => by have := hb.1; omega))
theorem IsEx.far6X {n q : Nat} {w : World} {u : Value} {x : Ex} (h : IsEx n (DX q w) w u x) {g : Nat} (hp : g ≤ q) (a b c d e f : Value) : IsEx n (DX q ((((((w.setCell ⟨g, 0, none⟩ a).setCell ⟨g, 1, none⟩ b).setCell ⟨g, 2, none⟩ c).setCell ⟨g, 3, none⟩ d).setCell ⟨g, 4, none⟩ e).setCell ⟨g, 5, none⟩ f)) ((((((w.setCell ⟨g, 0, none⟩ a).setCell ⟨g, 1, none⟩ b).setCell ⟨g, 2, none⟩ c).setCell ⟨g, 3, none⟩ d).setCell ⟨g, 4, none⟩ e).setCell ⟨g, 5, none⟩ f) u x :=
  ((((((h.farX (p := ⟨g, 0, none⟩) hp a).farX (p := ⟨g, 1, none⟩) hp b).farX (p := ⟨g, 2, none⟩) hp c).farX (p := ⟨g, 3, none⟩) hp d).farX (p := ⟨g, 4, none⟩) hp e).farX (p := ⟨g, 5, none⟩) hp f)
theorem IsEx.cells {n : Nat} {D : Nat → Prop} {w : World} {u : Value} {x : Ex} (h : IsEx n D w u x) : ∃ lv, u = .agg #[.int .i64 x.op, .int .i64 x.v.kind, .int .i64 x.v.n, .string x.v.s, .string x.s, lv] ∧ RExN (n + 1) D w x [.int .i64 x.op, .int .i64 x.v.kind, .int .i64 x.v.n, .string x.v.s, .string x.s, lv] ∧ ∃ A c, lv = .slice A x.l.length c := by
  obtain ⟨lv, e, h1, h2, h3, h4⟩ := h
  obtain ⟨A, c, hlv, _, _, _⟩ := SlE.open_ h4
  exact ⟨lv, e, ⟨lv, rfl, h1, h2, h3, h4⟩, A, c, hlv⟩
theorem fit_small {z : Int} (h : 0 ≤ z ∧ z ≤ 100) : Fit z := by unfold Fit; omega
theorem num_cells {D : Nat → Prop} {w : World} {n : Int} (hn : 0 ≤ n ∧ n ≤ 4) (m : Nat) : RExN (m + 1) D w (num n) (numXs n).toList := by
  refine ⟨.slice none 0 0, rfl, fit_small (show (0 : Int) ≤ 1 ∧ (1 : Int) ≤ 100 by omega), ⟨fit_small (show (0 : Int) ≤ 2 ∧ (2 : Int) ≤ 100 by omega), fit_small (show 0 ≤ n ∧ n ≤ 100 by omega), by show (⟨#[]⟩ : ByteArray).size ≤ maxLen; unfold maxLen; decide⟩, by show (⟨#[]⟩ : ByteArray).size ≤ maxLen; unfold maxLen; decide, ?_⟩
  exact Sl.none_
def rowC (cs : List Value) (ns : List Int) : List Value := cs ++ ns.flatMap fun n => (numXs n).toList
theorem rowC_snoc (cs : List Value) (ns : List Int) (n : Int) : rowC cs (ns ++ [n]) = rowC cs ns ++ (numXs n).toList := by
  unfold rowC; simp [List.flatMap_append, List.append_assoc]
theorem numFlat_get : ∀ (ns : List Int) (i : Nat) (n : Int), ns[i]? = some n → ∀ j u, ((numXs n).toList)[j]? = some u → (ns.flatMap fun n => (numXs n).toList)[i * 6 + j]? = some u
  | [], i, n, h, _, _, _ => by simp at h
  | a :: ns, 0, n, h, j, u, hu => by
    have h : a = n := by simpa using h
    subst h
    rw [List.flatMap_cons, Nat.zero_mul, Nat.zero_add, List.getElem?_append_left]
    · exact hu
    · rcases Nat.lt_or_ge j (numXs a).toList.length with h | h
      · exact h
      · rw [List.getElem?_eq_none h] at hu; cases hu
  | a :: ns, i + 1, n, h, j, u, hu => by
    have hl : (numXs a).toList.length = 6 := rfl
    rw [List.flatMap_cons, List.getElem?_append_right (by rw [hl]; omega), hl, show (i + 1) * 6 + j - 6 = i * 6 + j by omega]
    exact numFlat_get ns i n (by simpa using h) j u hu
theorem rowC_sl {D : Nat → Prop} {w : World} {base t : Nat} {v : Value} {cs : List Value} {ns : List Int} {m : Nat} {x : Ex} (h : w.ownsRow base t 6 v (1 + ns.length) (rowC cs ns)) (hcs : cs.length = 6) (hx : RExN (m + 1) D w x cs) (hn : ∀ n ∈ ns, 0 ≤ n ∧ n ≤ 4) (hD : ∀ g, v.ownBlock = some g → D g) : SlE (m + 1) D w v (x :: ns.map num) := by
  refine Sl.of_own h (by simp; omega) hD fun i y hy => ?_
  cases i with
  | zero =>
    have hy : x = y := by simpa using hy
    subst hy
    refine ⟨cs, hcs, fun j u hu => ?_, hx⟩
    unfold rowC
    rw [Nat.zero_mul, Nat.zero_add, List.getElem?_append_left]
    · exact hu
    · rcases Nat.lt_or_ge j cs.length with h | h
      · exact h
      · rw [List.getElem?_eq_none h] at hu; cases hu
  | succ i =>
    rw [List.getElem?_cons_succ, List.getElem?_map] at hy
    obtain ⟨n, hn1, rfl⟩ := Option.map_eq_some_iff.1 hy
    refine ⟨(numXs n).toList, rfl, fun j u hu => ?_, num_cells (hn n (List.mem_of_getElem? hn1)) m⟩
    unfold rowC
    rw [List.getElem?_append_right (by omega), hcs, show (i + 1) * 6 + j - 6 = i * 6 + j by omega]
    exact numFlat_get ns i n hn1 j u hu
def RetX (q g : Nat) (A : Option Addr) (c : Nat) (L : List Tok) (R : Ex × Nat) (w : World) (e : Ending) (w' : World) : Prop :=
  ∃ m v, e = .returned v ∧ IsEx m (DX q w') w' v R.1 ∧ IsPs w' g A c L R.2 ∧ R.2 < L.length ∧ w.grownBy w' (some g)
theorem conB_some {L : List Tok} {i : Nat} {x : Ex} {i' : Nat} (h : conB L i = some (some (x, i'))) : ∃ t, L[i]? = some t ∧ x = num t.n ∧ i' = i + 1 := by
  unfold conB at h
  cases ht : L[i]? with
  | none => rw [ht] at h; cases h
  | some t =>
    rw [ht] at h
    dsimp only at h
    by_cases h2 : t.kind = 2
    · rw [if_pos h2] at h
      injection h with h
      injection h with h
      injection h with h1 h3
      exact ⟨t, rfl, h1.symm, h3.symm⟩
    · rw [if_neg h2] at h
      split at h
      · cases h
      · split at h
        · cases h
        · injection h with h; cases h
theorem isB_lt {L : List Tok} {i : Nat} {s : ByteArray} (h : isB L i s = true) : i < L.length := by
  rcases Nat.lt_or_ge i L.length with h' | h'
  · exact h'
  · unfold isB at h; rw [List.getElem?_eq_none h'] at h; cases h
structure TokOk (L : List Tok) : Prop where
  len : L.length ≤ 1000
  num : ∀ t ∈ L, 0 ≤ t.n ∧ t.n ≤ 4
  text : ∀ t ∈ L, t.text.size ≤ maxLen
  more : ∀ i t, L[i]? = some t → t.kind ≠ 5 → i + 1 < L.length
theorem TokOk.next {L : List Tok} (h : TokOk L) {i : Nat} {s : ByteArray} (hq : isB L i s = true) : i + 1 < L.length := by
  have hi := isB_lt hq
  refine h.more i _ (List.getElem?_eq_getElem hi) (fun e => ?_)
  unfold isB at hq
  rw [List.getElem?_eq_getElem hi] at hq
  simp only [Bool.and_eq_true, Bool.or_eq_true, decide_eq_true_eq] at hq
  rw [e] at hq
  omega
end Go.Proofs.YtijmnenojbfdnaaGreatDoor
