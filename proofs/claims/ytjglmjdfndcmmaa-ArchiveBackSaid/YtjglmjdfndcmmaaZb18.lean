/- Texts of this seat, merged. -/
import Derived.Test.YtjglmjdfndcmmaaZb01
import Derived.Test.YtjglmjdfndcmmaaZb02
import Derived.Test.YtjglmjdfndcmmaaZb09
import Derived.Test.YtjglmjdfndcmmaaZb10
import Derived.Test.YtjglmjdfndcmmaaZb11
set_option linter.all false
set_option linter.all false
namespace Go.Proofs.Ytjglmjdfndcmmaa
open Go.RowKit
def evCells (e : Ev) (dv : Value) : List Value := [.string e.cas, .string e.act, .string e.res, .int .i64 e.life, .int .i64 e.time, dv]
def EvF (w : World) (g N : Nat) (ev : Nat → Ev) (D : Nat → Prop) : Prop := ∃ (cs : Array Value) (dv : Nat → Value), Blk w g 57 cs ∧ N * 6 ≤ cs.size ∧ ∀ j, j < N → FitEv (ev j) ∧ (SlFl D w (dv j) (ev j).data ∧ ((ev j).data = [] → dv j = .slice none 0 0)) ∧ ∀ k u, (evCells (ev j) (dv j))[k]? = some u → cs[j * 6 + k]? = some u
def upd (ev : Nat → Ev) (j : Nat) (e : Ev) : Nat → Ev := fun i => if i = j then e else ev i
theorem upd_same (ev : Nat → Ev) (j : Nat) (e : Ev) : upd ev j e j = e := if_pos rfl
theorem upd_ne {ev : Nat → Ev} {j i : Nat} {e : Ev} (h : i ≠ j) : upd ev j e i = ev i := if_neg h
def Dn (L g R : Nat) : Nat → Prop := fun b => b < L ∧ b ≠ g ∧ R < b
theorem Dn.ner {L g R b : Nat} (h : Dn L g R b) : b ≠ R := Nat.ne_of_gt h.2.2
def Two (R g : Nat) : Nat → Prop := fun i => i = R ∨ i = g
theorem evCells_lt {e : Ev} {dv u : Value} {k : Nat} (h : (evCells e dv)[k]? = some u) : k < 6 := (List.getElem?_eq_some_iff.1 h).1
theorem EvF.set {w : World} {g N j k : Nat} {ev : Nat → Ev} {D D' : Nat → Prop} {u : Value} {e' : Ev} (h : EvF w g N ev D) (hj : j < N) (hk : k < 6) (hg : ¬ D g) (hD : ∀ b, D b → D' b)
    (hc : ∀ dv, SlFl D w dv (ev j).data → ((ev j).data = [] → dv = .slice none 0 0) → ∃ dv', evCells e' dv' = (evCells (ev j) dv).set k u ∧ (SlFl D' (w.setCell ⟨g, j * 6 + k, none⟩ u) dv' e'.data ∧ (e'.data = [] → dv' = .slice none 0 0))) (hf : FitEv (ev j) → FitEv e') : EvF (w.setCell ⟨g, j * 6 + k, none⟩ u) g N (upd ev j e') D' := by
  obtain ⟨cs, dv, hB, hsz, hh⟩ := h
  obtain ⟨f1, f2, f3⟩ := hh j hj
  obtain ⟨dv', c1, c2⟩ := hc _ f2.1 f2.2
  refine ⟨cs.setIfInBounds (j * 6 + k) u, fun i => if i = j then dv' else dv i, hB.set_ _ _, by simpa using hsz, fun i hi => ?_⟩
  by_cases hij : i = j
  · subst hij
    rw [upd_same]
    simp only [if_true]
    refine ⟨hf f1, c2, fun m v hm => ?_⟩
    rw [c1] at hm
    rw [Array.getElem?_setIfInBounds]
    by_cases hmk : m = k
    · subst hmk
      rw [List.getElem?_set_self (show m < (evCells (ev i) (dv i)).length from hk)] at hm
      rw [if_pos rfl, if_pos (by omega)]
      exact hm
    · rw [List.getElem?_set_ne (by omega)] at hm
      rw [if_neg (by omega)]
      exact f3 m v hm
  · rw [upd_ne hij]
    simp only [if_neg hij]
    obtain ⟨g1, g2, g3⟩ := hh i hi
    refine ⟨g1, ⟨Sl.keep g2.1 RFld.kept hD (fun b hb => Below.heap_setCell w _ u b fun e => hg ((show b = g from e) ▸ hb)), g2.2⟩, fun m v hm => ?_⟩
    have := evCells_lt hm
    rw [Array.getElem?_setIfInBounds, if_neg (by omega)]
    exact g3 m v hm
theorem EvF.put {w : World} {g N j k : Nat} {ev : Nat → Ev} {D : Nat → Prop} {u : Value} {e' : Ev} (h : EvF w g N ev D) (hj : j < N) (hk : k < 6) (hg : ¬ D g) (hc : ∀ dv, evCells e' dv = (evCells (ev j) dv).set k u) (hd : e'.data = (ev j).data) (hf : FitEv (ev j) → FitEv e') : EvF (w.setCell ⟨g, j * 6 + k, none⟩ u) g N (upd ev j e') D :=
  h.set hj hk hg (fun _ => id) (fun dv hs hn => ⟨dv, hc dv, by rw [hd]; exact ⟨Sl.keep hs RFld.kept (fun _ => id) (fun b hb => Below.heap_setCell w _ u b fun e => hg ((show b = g from e) ▸ hb)), hn⟩⟩) hf
theorem EvF.chg {w w' : World} {g N : Nat} {ev : Nat → Ev} {S D D' : Nat → Prop} (h : EvF w g N ev D) (k : Chg S w w') (hg : ¬ S g) (hS : ∀ b, D b → b < w.heap.size ∧ ¬ S b) (hD : ∀ b, D b → D' b) : EvF w' g N ev D' := by
  obtain ⟨cs, dv, hB, hsz, hh⟩ := h
  refine ⟨cs, dv, hB.chg k hg, hsz, fun j hj => ?_⟩
  obtain ⟨f1, f2, f3⟩ := hh j hj
  exact ⟨f1, ⟨Sl.keep f2.1 RFld.kept hD (fun b hb => k.block b (hS b hb).1 (hS b hb).2), f2.2⟩, f3⟩
theorem EvF.lt {w : World} {g N : Nat} {ev : Nat → Ev} {D : Nat → Prop} (h : EvF w g N ev D) : g < w.heap.size := by obtain ⟨_, _, hB, _⟩ := h; exact hB.lt
theorem EvF.frozen {w : World} {g N : Nat} {ev : Nat → Ev} {D : Nat → Prop} (h : EvF w g N ev D) (i : Nat) : w.frozen? ⟨g, i, none⟩ = false := by obtain ⟨_, _, hB, _⟩ := h; exact hB.frozen i
theorem EvF.at_ {w : World} {g N j : Nat} {ev : Nat → Ev} {D : Nat → Prop} (h : EvF w g N ev D) (hj : j < N) : ∃ dv, FitEv (ev j) ∧ (SlFl D w dv (ev j).data ∧ ((ev j).data = [] → dv = .slice none 0 0)) ∧ w.cell? ⟨g, j * 6, none⟩ = some (.string (ev j).cas) ∧ w.cell? ⟨g, j * 6 + 1, none⟩ = some (.string (ev j).act) ∧ w.cell? ⟨g, j * 6 + 2, none⟩ = some (.string (ev j).res) ∧
    w.cell? ⟨g, j * 6 + 3, none⟩ = some (.int .i64 (ev j).life) ∧ w.cell? ⟨g, j * 6 + 4, none⟩ = some (.int .i64 (ev j).time) ∧ w.cell? ⟨g, j * 6 + 5, none⟩ = some dv := by
  obtain ⟨cs, dv, hB, _, hh⟩ := h
  obtain ⟨f1, f2, f3⟩ := hh j hj
  exact ⟨dv j, f1, f2, (hB.cell _).trans (f3 0 _ rfl), (hB.cell _).trans (f3 1 _ rfl), (hB.cell _).trans (f3 2 _ rfl), (hB.cell _).trans (f3 3 _ rfl), (hB.cell _).trans (f3 4 _ rfl), (hB.cell _).trans (f3 5 _ rfl)⟩
theorem EvF.ext {w : World} {g N : Nat} {ev ev' : Nat → Ev} {D : Nat → Prop} (h : EvF w g N ev D) (he : ∀ j, j < N → ev' j = ev j) : EvF w g N ev' D := by
  obtain ⟨cs, dv, hB, hsz, hh⟩ := h
  refine ⟨cs, dv, hB, hsz, fun j hj => ?_⟩
  rw [he j hj]
  exact hh j hj
theorem EvF.sl {w : World} {g N c : Nat} {ev : Nat → Ev} {D D' : Nat → Prop} (h : EvF w g N ev D) (hc : N ≤ c) (hc2 : c ≤ 9223372036854775807) (hg : D' g) (hD : ∀ b, D b → D' b) : SlEv D' w (.slice (some ⟨g, 0, none⟩) N c) ((List.range N).map ev) := by
  obtain ⟨cs, dv, hB, hsz, hh⟩ := h
  refine ⟨some ⟨g, 0, none⟩, c, by simp, by simpa using hc, hc2, fun i x hx => ?_⟩
  rw [List.getElem?_map, Option.map_eq_some_iff] at hx
  obtain ⟨i', hi, rfl⟩ := hx
  have hlt : i < N := by simpa using (List.getElem?_eq_some_iff.1 hi).1
  have hii : i' = i := by
    have := (List.getElem?_eq_some_iff.1 hi).2
    simpa using this.symm
  subst hii
  obtain ⟨f1, f2, f3⟩ := hh i' hlt
  refine ⟨g, 0, evCells (ev i') (dv i'), rfl, hg, rfl, ⟨dv i', rfl, f1, Sl.keep f2.1 RFld.kept hD (Same.refl _ _)⟩, fun m u hm => ?_⟩
  rw [Nat.zero_add]
  exact (hB.cell _).trans (f3 m u hm)
theorem lead_get {x : Nat} : ∀ (l : List Nat) (m : Nat), m < lead x l → l[m]? = some x
  | [], m, h => by simp [lead] at h
  | y :: l, m, h => by
    unfold lead at h
    split at h
    · rename_i e
      subst e
      cases m with
      | zero => rfl
      | succ m => simpa using lead_get l m (by omega)
    · omega
theorem runs_split {vals : List Nat} {i : Nat} (hi : i < vals.length) : ∃ x K, 1 ≤ K ∧ i + K ≤ vals.length ∧ (∀ m, i ≤ m → m < i + K → vals[m]? = some x) ∧ arRuns (vals.drop i) = arNum x ++ (arNum K ++ arRuns (vals.drop (i + K))) := by
  refine ⟨vals[i], lead vals[i] (vals.drop (i + 1)) + 1, by omega, ?_, fun m h1 h2 => ?_, ?_⟩
  · have := lead_le vals[i] (vals.drop (i + 1))
    rw [List.length_drop] at this
    omega
  · rcases Nat.eq_or_lt_of_le h1 with rfl | h1
    · exact List.getElem?_eq_getElem hi
    · have := lead_get (x := vals[i]) (vals.drop (i + 1)) (m - (i + 1)) (by omega)
      rw [List.getElem?_drop, show i + 1 + (m - (i + 1)) = m by omega] at this
      exact this
  · rw [List.drop_eq_getElem_cons hi, arRuns_cons, List.drop_drop, List.append_assoc]
    congr 4
    omega
end Go.Proofs.Ytjglmjdfndcmmaa

set_option linter.all false
namespace Go.Proofs.Ytjglmjdfndcmmaa
open Go.RowKit
structure Puts (k : FuncId) (caps : Array Value) (R g : Nat) (set : Ev → Nat → Ev) (bad : Nat → Bool) (I : World → Prop) : Prop where
  enter : ∀ z y w, (callFunc k (#[z, y] ++ caps)).run Try.prog w = .ok (.enter k (#[z, y] ++ caps)) w
  keep : ∀ W W', Chg (Two R g) W W' → I W → I W'
  step : ∀ (B N L j n : Nat) (ev : Nat → Ev) (l : List UInt8) (q : Bool) (W : World), I W → RdP B W R l q → EvF W g N ev (Dn L g R) → B ≤ R → B ≤ g → g ≠ R → j < N → L ≤ W.heap.size → n < 1000000 →
    Calls Try.prog k (#[.pointer (some ⟨g, j * 6, none⟩), .int .i64 (n : Int)] ++ caps) W fun e W' => e = .returned (.tuple #[]) ∧ RdP B W' R l (q || bad n) ∧ EvF W' g N (upd ev j (set (ev j) n)) (Dn L g R) ∧ Chg (Two R g) W W'
def wordAt (ws : List ByteArray) (n : Nat) : ByteArray := ws.getD n ⟨#[]⟩
structure WordsI (bw br bf R g X : Nat) (A : Option Addr) (c : Nat) (ws : List ByteArray) (W : World) : Prop where
  w : Blk W bw 51 #[.slice A ws.length c]
  sl : SlS (Dn X g R) W (.slice A ws.length c) ws
  r : Blk W br 73 #[.pointer (some ⟨R, 0, none⟩)]
  f : Blk W bf 103 #[.func (.func 63) #[] #[.pointer (some ⟨bw, 0, none⟩), .pointer (some ⟨br, 0, none⟩)]]
  x : X ≤ W.heap.size
  ne : bw ≠ R ∧ bw ≠ g ∧ br ≠ R ∧ br ≠ g ∧ bf ≠ R ∧ bf ≠ g
theorem WordsI.chg {bw br bf R g X c : Nat} {A : Option Addr} {ws : List ByteArray} {W W' : World} (h : WordsI bw br bf R g X A c ws W) (k : Chg (Two R g) W W') : WordsI bw br bf R g X A c ws W' := by
  obtain ⟨h1, h2, h3, h4, h5, n1, n2, n3, n4, n5, n6⟩ := h
  have hx : ∀ b, Dn X g R b → ¬ Two R g b := fun b hb e => by
    rcases e with e | e
    · exact Dn.ner hb e
    · exact hb.2.1 e
  exact ⟨h1.chg k (by rintro (e | e) <;> omega), Sl.keep h2 RStr.kept (fun _ => id) (fun b hb => k.block b (Nat.lt_of_lt_of_le hb.1 h5) (hx b hb)), h3.chg k (by rintro (e | e) <;> omega), h4.chg k (by rintro (e | e) <;> omega), Nat.le_trans h5 k.size, n1, n2, n3, n4, n5, n6⟩
theorem Chg.two {R g : Nat} {w w' : World} (h : Chg (One R) w w') : Chg (Two R g) w w' := h.mono fun _ _ e => .inl e
set_option maxHeartbeats 1000000 in
set_option maxRecDepth 100000 in
theorem word_any (bw br bf R g X c B n : Nat) (A : Option Addr) (ws : List ByteArray) (l : List UInt8) (q : Bool) (W : World) (h : WordsI bw br bf R g X A c ws W) (hr : RdP B W R l q) (hB : B ≤ R) (hn : n < 1000000) :
    Calls Try.prog 63 #[.int .i64 (n : Int), .pointer (some ⟨bw, 0, none⟩), .pointer (some ⟨br, 0, none⟩)] W fun e W' => e = .returned (.string (wordAt ws n)) ∧ RdP B W' R l (q || decide (ws.length ≤ n)) ∧ Chg (One R) W W' := by
  have c0 := h.w.c1
  have c1 := h.r.c1
  have HR := Lib.hid hr
  have HS := Lib.hid h.sl
  obtain ⟨b, o, kc, hK, _, _, _⟩ := hr
  obtain ⟨d0, d1⟩ := hK.c2
  have fz1 := hK.frozen 1
  clear h hK
  by_cases hlt : ws.length ≤ n
  · have hi : (ws.length : Int) ≤ (n : Int) := by omega
    have HF : Hid (RdP B (W.setCell ⟨R, 1, none⟩ (.bool true)) R l (q || decide (ws.length ≤ n)) ∧ Chg (One R) W (W.setCell ⟨R, 1, none⟩ (.bool true))) := Lib.hid (by
      rw [decide_eq_true hlt, Bool.or_true]
      exact ⟨HR.out.bad hB, Chg.refl.set (p := ⟨R, 1, none⟩) (.inr (show One R R from rfl)) _⟩)
    have HW : Hid (wordAt ws n = ⟨#[]⟩) := Lib.hid (by unfold wordAt; rw [List.getD_eq_getElem?_getD, List.getElem?_eq_none hlt]; rfl)
    clear hlt
    go_enter Try.func63, Try.ntmps63
    go_wp2_with fail
    go_ret
    exact ⟨by rw [HW.out]; rfl, HF.out⟩
  · have hi : ¬ (ws.length : Int) ≤ (n : Int) := by omega
    obtain ⟨b', o', s, rfl, hD, hx, hs, hc⟩ := SlS.at_ (k := n) HS.out (by omega)
    have HW : Hid (wordAt ws n = s) := Lib.hid (by unfold wordAt; rw [List.getD_eq_getElem?_getD, hx]; rfl)
    have HF : Hid (RdP B W R l (q || decide (ws.length ≤ n))) := Lib.hid (by rw [decide_eq_false hlt, Bool.or_false]; exact HR.out)
    have h1 : (n : Int) < (ws.length : Int) := by omega
    clear hlt hx
    go_enter Try.func63, Try.ntmps63
    go_wp2_with fail
    go_ret
    exact ⟨by rw [HW.out]; rfl, HF.out, Chg.refl⟩
-- PUTS
set_option maxHeartbeats 1000000 in
set_option maxRecDepth 100000 in
theorem puts1 (bw br bf R g X c : Nat) (A : Option Addr) (ws : List ByteArray) (hws : ∀ s ∈ ws, s.size ≤ maxLen) : Puts 65 #[.pointer (some ⟨bf, 0, none⟩)] R g (fun e n => { e with cas := wordAt ws n }) (fun n => decide (ws.length ≤ n)) (WordsI bw br bf R g X A c ws) := by
  refine ⟨fun z y w => enters_of Try.func65 (by kernel_rfl) rfl _ w, fun _ _ k h => h.chg k, ?_⟩
  rintro B N L j n ev l q W hI hR hE hB hBg hgR hj hL hn
  show Calls Try.prog 65 #[.pointer (some ⟨g, j * 6, none⟩), .int .i64 (n : Int), .pointer (some ⟨bf, 0, none⟩)] W _
  have c0 := hI.f.c1
  have HW := Lib.hid (word_any bw br bf R g X c B n A ws l q W hI hR hB hn)
  have HE := Lib.hid hE
  have HRl := Lib.hid hR.lt
  have HSZ := Lib.hid (show (wordAt ws n).size ≤ maxLen by
    unfold wordAt
    rw [List.getD_eq_getElem?_getD]
    cases h : ws[n]? with
    | none => exact Nat.zero_le _
    | some s => exact hws s (List.mem_of_getElem? h))
  clear hI hR hE
  go_enter Try.func65, Try.ntmps65
  go_wp2_with fail
  (with_reducible refine HW.out.mono ?_)
  rintro _ w1 ⟨rfl, hR1, hC1⟩
  have hE1 := HE.out.chg hC1 (fun e => hgR e) (fun b hb => ⟨Nat.lt_of_lt_of_le hb.1 hL, Dn.ner hb⟩) (fun _ => id)
  obtain ⟨dv, _, _, a0, a1, a2, a3, a4, a5⟩ := hE1.at_ hj
  have fz := hE1.frozen (j * 6)
  have HF : Hid (RdP B (w1.setCell ⟨g, j * 6, none⟩ (.string (wordAt ws n))) R l (q || decide (ws.length ≤ n)) ∧ EvF (w1.setCell ⟨g, j * 6, none⟩ (.string (wordAt ws n))) g N (upd ev j { ev j with cas := wordAt ws n }) (Dn L g R) ∧ Chg (Two R g) W (w1.setCell ⟨g, j * 6, none⟩ (.string (wordAt ws n)))) := Lib.hid
    ⟨hR1.far hB (p := ⟨g, j * 6, none⟩) ⟨hgR, hBg⟩ _, hE1.put (k := 0) hj (by omega) (fun h => h.2.1 rfl) (fun _ => rfl) rfl (fun h => ⟨HSZ.out, h.act, h.res, h.life, h.time⟩), hC1.two.set (p := ⟨g, j * 6, none⟩) (.inr (.inr rfl)) _⟩
  clear hR1 hE1 hC1
  go_wp2_with fail
  go_end0
  exact ⟨rfl, HF.out⟩
set_option maxHeartbeats 1000000 in
set_option maxRecDepth 100000 in
theorem puts2 (bw br bf R g X c : Nat) (A : Option Addr) (ws : List ByteArray) (hws : ∀ s ∈ ws, s.size ≤ maxLen) : Puts 66 #[.pointer (some ⟨bf, 0, none⟩)] R g (fun e n => { e with act := wordAt ws n }) (fun n => decide (ws.length ≤ n)) (WordsI bw br bf R g X A c ws) := by
  refine ⟨fun z y w => enters_of Try.func66 (by kernel_rfl) rfl _ w, fun _ _ k h => h.chg k, ?_⟩
  rintro B N L j n ev l q W hI hR hE hB hBg hgR hj hL hn
  show Calls Try.prog 66 #[.pointer (some ⟨g, j * 6, none⟩), .int .i64 (n : Int), .pointer (some ⟨bf, 0, none⟩)] W _
  have c0 := hI.f.c1
  have HW := Lib.hid (word_any bw br bf R g X c B n A ws l q W hI hR hB hn)
  have HE := Lib.hid hE
  have HRl := Lib.hid hR.lt
  have HSZ := Lib.hid (show (wordAt ws n).size ≤ maxLen by
    unfold wordAt
    rw [List.getD_eq_getElem?_getD]
    cases h : ws[n]? with
    | none => exact Nat.zero_le _
    | some s => exact hws s (List.mem_of_getElem? h))
  clear hI hR hE
  go_enter Try.func66, Try.ntmps66
  go_wp2_with fail
  (with_reducible refine HW.out.mono ?_)
  rintro _ w1 ⟨rfl, hR1, hC1⟩
  have hE1 := HE.out.chg hC1 (fun e => hgR e) (fun b hb => ⟨Nat.lt_of_lt_of_le hb.1 hL, Dn.ner hb⟩) (fun _ => id)
  obtain ⟨dv, _, _, a0, a1, a2, a3, a4, a5⟩ := hE1.at_ hj
  have fz := hE1.frozen (j * 6 + 1)
  have HF : Hid (RdP B (w1.setCell ⟨g, j * 6 + 1, none⟩ (.string (wordAt ws n))) R l (q || decide (ws.length ≤ n)) ∧ EvF (w1.setCell ⟨g, j * 6 + 1, none⟩ (.string (wordAt ws n))) g N (upd ev j { ev j with act := wordAt ws n }) (Dn L g R) ∧ Chg (Two R g) W (w1.setCell ⟨g, j * 6 + 1, none⟩ (.string (wordAt ws n)))) := Lib.hid
    ⟨hR1.far hB (p := ⟨g, j * 6 + 1, none⟩) ⟨hgR, hBg⟩ _, hE1.put (k := 1) hj (by omega) (fun h => h.2.1 rfl) (fun _ => rfl) rfl (fun h => ⟨h.cas, HSZ.out, h.res, h.life, h.time⟩), hC1.two.set (p := ⟨g, j * 6 + 1, none⟩) (.inr (.inr rfl)) _⟩
  clear hR1 hE1 hC1
  go_wp2_with fail
  go_end0
  exact ⟨rfl, HF.out⟩
set_option maxHeartbeats 1000000 in
set_option maxRecDepth 100000 in
theorem puts3 (bw br bf R g X c : Nat) (A : Option Addr) (ws : List ByteArray) (hws : ∀ s ∈ ws, s.size ≤ maxLen) : Puts 67 #[.pointer (some ⟨bf, 0, none⟩)] R g (fun e n => { e with res := wordAt ws n }) (fun n => decide (ws.length ≤ n)) (WordsI bw br bf R g X A c ws) := by
  refine ⟨fun z y w => enters_of Try.func67 (by kernel_rfl) rfl _ w, fun _ _ k h => h.chg k, ?_⟩
  rintro B N L j n ev l q W hI hR hE hB hBg hgR hj hL hn
  show Calls Try.prog 67 #[.pointer (some ⟨g, j * 6, none⟩), .int .i64 (n : Int), .pointer (some ⟨bf, 0, none⟩)] W _
  have c0 := hI.f.c1
  have HW := Lib.hid (word_any bw br bf R g X c B n A ws l q W hI hR hB hn)
  have HE := Lib.hid hE
  have HRl := Lib.hid hR.lt
  have HSZ := Lib.hid (show (wordAt ws n).size ≤ maxLen by
    unfold wordAt
    rw [List.getD_eq_getElem?_getD]
    cases h : ws[n]? with
    | none => exact Nat.zero_le _
    | some s => exact hws s (List.mem_of_getElem? h))
  clear hI hR hE
  go_enter Try.func67, Try.ntmps67
  go_wp2_with fail
  (with_reducible refine HW.out.mono ?_)
  rintro _ w1 ⟨rfl, hR1, hC1⟩
  have hE1 := HE.out.chg hC1 (fun e => hgR e) (fun b hb => ⟨Nat.lt_of_lt_of_le hb.1 hL, Dn.ner hb⟩) (fun _ => id)
  obtain ⟨dv, _, _, a0, a1, a2, a3, a4, a5⟩ := hE1.at_ hj
  have fz := hE1.frozen (j * 6 + 2)
  have HF : Hid (RdP B (w1.setCell ⟨g, j * 6 + 2, none⟩ (.string (wordAt ws n))) R l (q || decide (ws.length ≤ n)) ∧ EvF (w1.setCell ⟨g, j * 6 + 2, none⟩ (.string (wordAt ws n))) g N (upd ev j { ev j with res := wordAt ws n }) (Dn L g R) ∧ Chg (Two R g) W (w1.setCell ⟨g, j * 6 + 2, none⟩ (.string (wordAt ws n)))) := Lib.hid
    ⟨hR1.far hB (p := ⟨g, j * 6 + 2, none⟩) ⟨hgR, hBg⟩ _, hE1.put (k := 2) hj (by omega) (fun h => h.2.1 rfl) (fun _ => rfl) rfl (fun h => ⟨h.cas, h.act, HSZ.out, h.life, h.time⟩), hC1.two.set (p := ⟨g, j * 6 + 2, none⟩) (.inr (.inr rfl)) _⟩
  clear hR1 hE1 hC1
  go_wp2_with fail
  go_end0
  exact ⟨rfl, HF.out⟩
set_option maxHeartbeats 1000000 in
set_option maxRecDepth 100000 in
theorem puts4 (R g : Nat) : Puts 68 #[] R g (fun e n => { e with life := (n : Int) }) (fun _ => false) (fun _ => True) := by
  refine ⟨fun z y w => enters_of Try.func68 (by kernel_rfl) rfl _ w, fun _ _ _ h => h, ?_⟩
  rintro B N L j n ev l q W _ hR hE hB hBg hgR hj hL hn
  show Calls Try.prog 68 #[.pointer (some ⟨g, j * 6, none⟩), .int .i64 (n : Int)] W _
  obtain ⟨dv, _, _, a0, a1, a2, a3, a4, a5⟩ := hE.at_ hj
  have fz := hE.frozen (j * 6 + 3)
  have HF : Hid (RdP B (W.setCell ⟨g, j * 6 + 3, none⟩ (.int .i64 (n : Int))) R l q ∧ EvF (W.setCell ⟨g, j * 6 + 3, none⟩ (.int .i64 (n : Int))) g N (upd ev j { ev j with life := (n : Int) }) (Dn L g R) ∧ Chg (Two R g) W (W.setCell ⟨g, j * 6 + 3, none⟩ (.int .i64 (n : Int)))) := Lib.hid
    ⟨hR.far hB (p := ⟨g, j * 6 + 3, none⟩) ⟨hgR, hBg⟩ _, hE.put (k := 3) hj (by omega) (fun h => h.2.1 rfl) (fun _ => rfl) rfl (fun h => ⟨h.cas, h.act, h.res, fitI (by show _ ≤ (n : Int) ∧ (n : Int) ≤ _; omega), h.time⟩), Chg.refl.set (p := ⟨g, j * 6 + 3, none⟩) (.inr (show Two R g g from .inr rfl)) _⟩
  clear hR hE
  go_enter Try.func68, Try.ntmps68
  go_wp2_with fail
  go_end0
  exact ⟨rfl, HF.out⟩
end Go.Proofs.Ytjglmjdfndcmmaa
