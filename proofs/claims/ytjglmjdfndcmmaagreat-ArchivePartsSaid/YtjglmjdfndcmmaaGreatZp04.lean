/- Texts of this seat, merged. -/
import Derived.Test.YtjglmjdfndcmmaaGreatZp01
import Derived.Test.YtjglmjdfndcmmaaGreatZp02
import Derived.Test.YtjglmjdfndcmmaaGreatZp03
set_option linter.all false
set_option linter.all false
namespace Go.Proofs.YtjglmjdfndcmmaaGreat
open Go.RowKit Go.Maps
theorem names3_take {l : List Ev} {k : Nat} {e : Ev} (h : l[k]? = some e) (s : Bs) : s ∈ names3 (l.take (k + 1)) ↔ s ∈ names3 (l.take k) ∨ s = e.cas.data.toList ∨ s = e.act.data.toList ∨ s = e.res.data.toList := by
  rw [take_next h]
  unfold names3
  simp only [List.map_append, List.map_cons, List.map_nil, List.mem_append, List.mem_singleton]
  constructor
  · rintro ((h | h) | (h | h) | (h | h))
    · exact .inl (.inl h)
    · exact .inr (.inl h)
    · exact .inl (.inr (.inl h))
    · exact .inr (.inr (.inl h))
    · exact .inl (.inr (.inr h))
    · exact .inr (.inr (.inr h))
  · rintro ((h | h | h) | h | h | h)
    · exact .inl (.inl h)
    · exact .inr (.inl (.inl h))
    · exact .inr (.inr (.inl h))
    · exact .inl (.inr h)
    · exact .inr (.inl (.inr h))
    · exact .inr (.inr (.inr h))
theorem grownD2 {a b c d : World} {row : Option Nat} (h : a.drew.grownBy b row) (k : b.grownBy c row) (m : c.grownBy d row) : a.grownBy d row :=
  ⟨m.os.trans (k.os.trans h.os), m.tape.trans (k.tape.trans h.tape), m.output.trans (k.output.trans h.output), Nat.le_trans h.size (Nat.le_trans k.size m.size), fun i hi hne => (m.block i (Nat.lt_of_lt_of_le hi (Nat.le_trans h.size k.size)) hne).trans ((k.block i (Nat.lt_of_lt_of_le hi h.size) hne).trans (h.block i hi hne))⟩
theorem below_of_grownT {w b c : World} (h : Below w.heap.size w b) (g : b.grownBy c (some w.heap.size)) : Below w.heap.size w c :=
  ⟨g.os.trans h.os, g.tape.trans h.tape, g.output.trans h.output, Nat.le_trans h.size g.size, fun i hi => (g.block i (Nat.lt_of_lt_of_le hi h.size) (fun e => by injection e; omega)).trans (h.block i hi)⟩
theorem below_of_grownW {w a b c : World} (h : Below a.heap.size a b) (k : Below w.heap.size w a) (g : b.grownBy c (some w.heap.size)) : Below w.heap.size w c :=
  below_of_grownT (k.trans (h.mono k.size)) g
theorem own_same {w w' : World} {base e size n : Nat} {v : Value} {xs : List Value} (h : w.ownsRow base e size v n xs) (hk : ∀ g, v.ownBlock = some g → w'.heap[g]? = w.heap[g]?) : w'.ownsRow base e size v n xs := by
  refine ⟨h.1, ?_⟩
  rcases h.2 with h0 | ⟨g, cap, cur, rfl, h1, h2, h3⟩
  · exact .inl h0
  · exact .inr ⟨g, cap, cur, rfl, h1, (hk g rfl).trans h2, h3⟩
theorem OwnS.keepX {w w' : World} {base : Nat} {v : Value} {ss : List Bs} (h : OwnS w base v ss) (k : KeepX w w') : OwnS w' base v ss :=
  own_same h fun g hg => by
    obtain ⟨cs, fz, hc⟩ := Lib.ownsRow_kind h g hg
    exact k.same g (Array.getElem?_eq_some_iff.1 hc).1 (fun c f e => by
      rw [hc] at e
      injection e with e
      injection e with _ e2 _
      exact absurd e2 (by decide))
theorem OwnS.put {w w' : World} {base b n : Nat} {v : Value} {ss : List Bs} {f : Bs → Option Nat} (h : OwnS w base v ss) (hM : MapN w b n f) (hg : w.grownBy w' (some b)) : OwnS w' base v ss :=
  own_same h fun g hg' => by
    obtain ⟨cs, fz, hc⟩ := Lib.ownsRow_kind h g hg'
    exact hg.block g (Array.getElem?_eq_some_iff.1 hc).1 (fun e => hM.ne hc e.symm)
theorem Adds.put {base b n : Nat} {w w1 w2 : World} {v v1 : Value} {l : List UInt8} {f : Bs → Option Nat} (h : Adds base w v l w1 v1) (hM : MapN w1 b n f) (hg : w1.grownBy w2 (some b)) (hb : w.heap.size ≤ b) : Adds base w v l w2 v1 :=
  ⟨own_same h.own fun g hg' => by
      obtain ⟨cs, fz, hc⟩ := Lib.ownsRow_kind h.own g hg'
      exact hg.block g (Array.getElem?_eq_some_iff.1 hc).1 (fun e => hM.ne hc e.symm),
    ⟨hg.os.trans h.grown.os, hg.tape.trans h.grown.tape, hg.output.trans h.grown.output, Nat.le_trans h.grown.size hg.size, fun i hi hne => (hg.block i (Nat.lt_of_lt_of_le hi h.grown.size) (fun e => by injection e; omega)).trans (h.grown.block i hi hne)⟩, h.hat⟩
theorem flat_take {α : Type} (f : α → List UInt8) {l : List α} {k : Nat} {x : α} (h : l[k]? = some x) : ((l.take k).flatMap f).length + (f x).length ≤ (l.flatMap f).length := by
  have hk := (List.getElem?_eq_some_iff.1 h).1
  have e : l = l.take k ++ (l[k] :: l.drop (k + 1)) := by rw [← List.drop_eq_getElem_cons hk, List.take_append_drop]
  have hx : l[k] = x := by rw [List.getElem?_eq_getElem hk] at h; injection h
  have h2 : l.flatMap f = (l.take k).flatMap f ++ (f x ++ (l.drop (k + 1)).flatMap f) := by
    conv => lhs; rw [e]
    rw [List.flatMap_append, List.flatMap_cons, hx]
  rw [h2, List.length_append, List.length_append]
  omega
theorem flat_next {α : Type} (f : α → List UInt8) {l : List α} {k : Nat} {x : α} (h : l[k]? = some x) : (l.take (k + 1)).flatMap f = (l.take k).flatMap f ++ f x := by
  rw [take_next h, List.flatMap_append]
  simp
theorem datum_agg (x : Val) (base : Nat) (v : Value) (l : List UInt8) (w : World) (hv : validV x = true) (hown : OwnC w base v l) (hb : base ≤ w.heap.size) (hl : l.length + (arVal x).length ≤ 9000000) :
    Calls Tryz.prog 86 #[v, .agg #[.int .i64 x.kind, .int .i64 x.n, .string x.s]] w (RetAdd base w v (l ++ arVal x)) := datum_any x base v l w hv hown hb hl
def Idx (f : Bs → Option Nat) (ws : List Bs) (k : Nat) : Prop := ∀ j s, j < k → ws[j]? = some s → f s = some j
theorem Idx.put {f : Bs → Option Nat} {ws : List Bs} {k : Nat} {t : Bs} (h : Idx f ws k) (hd : ws.Nodup) (ht : ws[k]? = some t) : Idx (fun s => if s = t then some k else f s) ws (k + 1) := by
  intro j s hj hs
  dsimp only
  by_cases e : s = t
  · rw [if_pos e]
    subst e
    have h1 := (List.getElem?_eq_some_iff.1 hs).1
    have h2 := (List.getElem?_eq_some_iff.1 ht).1
    have h3 : ws[j] = ws[k] := by
      have a := List.getElem?_eq_getElem h1
      have b := List.getElem?_eq_getElem h2
      rw [hs] at a; rw [ht] at b
      injection a with a; injection b with b
      rw [← a, ← b]
    have hp := List.pairwise_iff_getElem.1 hd
    rcases Nat.lt_trichotomy j k with h | h | h
    · exact absurd h3 (hp _ _ h1 h2 h)
    · rw [h]
    · exact absurd h3.symm (hp _ _ h2 h1 h)
  · rw [if_neg e]
    have hjk : j ≠ k := fun e2 => by subst e2; rw [hs] at ht; injection ht with ht; exact e ht
    exact h j s (by omega) hs
theorem Idx.look {f : Bs → Option Nat} {ws : List Bs} (h : Idx f ws ws.length) {s : ByteArray} (hs : s.data.toList ∈ ws) : lookN f s = atW ws s := by
  unfold lookN atW
  have hlt := List.idxOf_lt_length_iff.2 hs
  have hg : ws[ws.idxOf s.data.toList]? = some s.data.toList := by
    rw [List.getElem?_eq_getElem hlt, List.getElem_idxOf]
  rw [h _ _ hlt hg]; rfl
def Has (f : Bs → Option Nat) (ks : List Bs) : Prop := ∀ s, (f s).isSome = true ↔ s ∈ ks
theorem Has.put {f : Bs → Option Nat} {ks : List Bs} (h : Has f ks) (t : Bs) (k : Nat) : Has (fun s => if s = t then some k else f s) (ks ++ [t]) := by
  intro s
  dsimp only
  rw [List.mem_append, List.mem_singleton]
  split
  · rename_i e; simp [e]
  · rename_i e; rw [h s]; simp [e]
theorem Has.eqv {f : Bs → Option Nat} {ks ms : List Bs} (h : Has f ks) (hm : ∀ s, s ∈ ks ↔ s ∈ ms) : Has f ms := fun s => (h s).trans (hm s)
set_option maxHeartbeats 4000000 in
set_option maxRecDepth 100000 in
theorem block_any (es : List Ev) (u : Value) (base : Nat) (v : Value) (l : List UInt8) (w : World) (hu : SlEv (Lt base) w u es) (hok : ∀ e ∈ es, EvOk e) (hlen : es.length ≤ 100) (hmono : es.Pairwise fun a b => a.time ≤ b.time) (hown : OwnC w base v l) (hb : base ≤ w.heap.size)
    (hl : l.length + (arBlock es).length ≤ 9000000) :
    Calls Tryz.prog 57 #[v, u] w (RetAdd base w v (l ++ arBlock es)) := by
  obtain ⟨A, c, rfl, h1, h2, hs⟩ := hu.open_
  have HS := Lib.hid hs
  have HOK := Lib.hid hok
  have H0 := Lib.hid hown
  have HL := Lib.hid hl
  have HB := Lib.hid hb
  have HMO := Lib.hid hmono
  clear hmono hu hs hok hown hl hb
  have hmm := @run_makeMap Tryz.prog
  go_enter Tryz.func57, Tryz.ntmps57
  go_wp2_with fail
  have hM0 := MapN.made w
  have hG0 := Blk.new (w.alloc (.map #[] 0)) 116 #[.map (some w.heap.size)]
  have hw00 := bbox (bone w (.map #[] 0)) (.cells #[.map (some w.heap.size)] 116)
  have hM1 := hM0.now (bone (w.alloc (.map #[] 0)) (.cells #[.map (some w.heap.size)] 116))
  rw [World.size_alloc] at hG0
  obtain ⟨w0, hw0⟩ : ∃ w0, (w.alloc (.map #[] 0)).alloc (.cells #[.map (some w.heap.size)] 116) = w0 := ⟨_, rfl⟩
  rw [hw0] at hw00 hG0 hM1 ⊢
  clear hw0 hM0 hmm
  go_loopw [21] (fun iv wr => ∃ (i nn : Nat) (F : Bs → Option Nat), iv = .int .i64 (i : Int) ∧ i ≤ es.length ∧ MapN wr w.heap.size nn F ∧ nn ≤ 3 * i ∧ Hid (Has F (names3 (es.take i))) ∧ Blk wr (w.heap.size + 1) 116 #[.map (some w.heap.size)] ∧ Below w.heap.size w wr) (fun iv _ => es.length - (intOf iv).toNat)
  case atStart => exact ⟨0, 0, _, rfl, Nat.zero_le _, hM1, Nat.le_refl _, Lib.hid (fun s => by simp [names3]), hG0, hw00⟩
  case round =>
    obtain ⟨i, nn, F, rfl, hi, hM, hnn, HF, hG, hbr⟩ := hrel
    obtain ⟨wo, rfl⟩ : ∃ wo, wo = wr := ⟨wr, rfl⟩
    have hBo : Hid (Below base w wo) := Lib.hid (hbr.mono HB.out)
    by_cases hlt : i < es.length
    · obtain ⟨b, o, e, dv, rfl, hD, hx, hff, hdv, f0, f1, f2, f3, f4, f5⟩ := SlEv.at_ (SlEv.below HS.out hBo.out (Nat.le_refl _)) hlt
      obtain ⟨Ad, cd, rfl, _, _, _⟩ := hdv.open_
      have HX := Lib.hid hx
      have hb2 := bone wo (.cells #[.string e.cas, .string e.act, .string e.res, .int .i64 e.life, .int .i64 e.time, .slice Ad e.data.length cd] 57)
      have hE2 := Blk.new wo 57 #[.string e.cas, .string e.act, .string e.res, .int .i64 e.life, .int .i64 e.time, .slice Ad e.data.length cd]
      have hM2 := hM.now hb2
      have hG2 := hG.now hb2
      go_upto_region 5 with fail
      obtain ⟨w2, hw2⟩ : ∃ w2, wo.alloc (.cells #[.string e.cas, .string e.act, .string e.res, .int .i64 e.life, .int .i64 e.time, .slice Ad e.data.length cd] 57) = w2 := ⟨_, rfl⟩
      rw [hw2] at hb2 hE2 hM2 hG2 ⊢
      clear hw2 f0 f1 f2 f3 f4 f5 hx hM hG
      obtain ⟨w3, u3, hM3, hg3⟩ := MapN.put (w := w2.drew) hM2 hff.cas (by unfold maxLen; omega) (k := 0) (by omega)
      obtain ⟨w4, u4, hM4, hg4⟩ := hM3.put hff.act (by unfold maxLen; omega) (k := 0) (by omega)
      obtain ⟨w5, u5, hM5, hg5⟩ := hM4.put hff.res (by unfold maxLen; omega) (k := 0) (by omega)
      rw [show ((0 : Nat) : Int) = 0 from rfl] at u3 u4 u5
      have n1 : ∀ {W : World} {g t : Nat} {cs : Array Value} {n : Nat} {f : Bs → Option Nat}, Blk W g t cs → MapN W w.heap.size n f → some g ≠ some w.heap.size := fun h m e => m.ne h e.symm
      have hE2' : Blk w2.drew wo.heap.size 57 #[.string e.cas, .string e.act, .string e.res, .int .i64 e.life, .int .i64 e.time, .slice Ad e.data.length cd] := hE2
      have hG2' : Blk w2.drew (w.heap.size + 1) 116 #[.map (some w.heap.size)] := hG2
      have hE3 := hE2'.grown hg3 (n1 hE2' hM2)
      have hG3 := hG2'.grown hg3 (n1 hG2' hM2)
      have hE4 := hE3.grown hg4 (n1 hE3 hM3)
      have hG4 := hG3.grown hg4 (n1 hG3 hM3)
      have hG5 := hG4.grown hg5 (n1 hG4 hM4)
      have HF5 : Hid (Has (fun t => if t = e.res.data.toList then some 0 else if t = e.act.data.toList then some 0 else if t = e.cas.data.toList then some 0 else F t) (names3 (es.take (i + 1)))) := by
        refine Lib.hid (Has.eqv (((HF.out.put e.cas.data.toList 0).put e.act.data.toList 0).put e.res.data.toList 0) fun s => ?_)
        rw [names3_take HX.out]
        simp only [List.mem_append, List.mem_singleton, or_assoc]
      obtain ⟨p0, p1, p2, p3, p4, p5⟩ := hE2'.c6
      obtain ⟨q0, q1, q2, q3, q4, q5⟩ := hE3.c6
      obtain ⟨r0, r1, r2, r3, r4, r5⟩ := hE4.c6
      have g2 := hG2'.c1
      have g3 := hG3.c1
      have g4 := hG4.c1
      have hgr : w2.grownBy w5 (some w.heap.size) := grownD2 hg3 hg4 hg5
      have HK := Lib.hid (And.intro hM5 (And.intro hG5 hgr))
      clear hE2 hE2' hG2 hG2' hE3 hG3 hE4 hG4 hG5 hM2 hM3 hM4 hM5 hg3 hg4 hg5 n1 hgr hff hdv
      have hR : ∃ (i' nn' : Nat) (F' : Bs → Option Nat), Value.int .i64 ((i : Int) + 1) = .int .i64 (i' : Int) ∧ i' ≤ es.length ∧ MapN w5 w.heap.size nn' F' ∧ nn' ≤ 3 * i' ∧ Hid (Has F' (names3 (es.take i'))) ∧ Blk w5 (w.heap.size + 1) 116 #[.map (some w.heap.size)] ∧ Below w.heap.size w w5 :=
        ⟨i + 1, nn + 1 + 1 + 1, _, by congr 1, by omega, HK.out.1, by omega, HF5, HK.out.2.1, below_of_grownW hb2 hbr HK.out.2.2⟩
      have HR := Lib.hid hR
      clear hR hb2 hbr
      go_region
      all_goals
        go_wp2_with fail
        go_roundw
        case rel => exact HR.out
        case measure => simp [intOf]; omega
    · obtain rfl : i = es.length := by omega
      rw [List.take_length] at HF
      have HW : Hid (setB (names3 es) = words es) := rfl
      have g0 := hG.c1
      have HKM := Lib.hid (fun W => keysN (some w.heap.size) W)
      have hsd := sortedN w.heap.size nn F (names3 es) wo hM HF.out (by omega)
      rw [HW.out] at hsd
      have HSD := Lib.hid hsd
      have hw1 := bone wo (.cells #[.map (some w.heap.size)] 116)
      have HRM := Lib.hid (And.intro hM (And.intro hG (And.intro hbr (And.intro hw1 (And.intro hnn HF)))))
      clear hsd hM hG hbr hw1 hnn HF HW hlt hi
      go_wp2_with fail
      (with_reducible refine (HKM.out _).mono ?_)
      rintro x w1 ⟨rfl, rfl⟩
      go_wp2_with fail
      (with_reducible refine HSD.out.mono ?_)
      rintro x w2 ⟨v2, rfl, hwd, hb2⟩
      obtain ⟨hM, hG, hbr, hw1, hnn, HF⟩ := HRM.out
      have hwo2 : Below wo.heap.size wo w2 := bthen hw1 hb2
      have hM2 := hM.now hwo2
      have hG2 := hG.now hwo2
      have hb02 : Below w.heap.size w w2 := hbr.trans (hwo2.mono hbr.size)
      have hA2 := (Adds.refl H0.out).post hb02
      have hnd : (words es).Nodup := asc_nodup (setB_asc _)
      have HND := Lib.hid hnd
      have hwl := words_len es
      have HWS := Lib.hid (words_size HOK.out)
      have hWd : Hid (OwnS w2 wo.heap.size v2 (words es)) := Lib.hid (ownsRow_base_a hwd (by simp))
      clear HKM HSD HRM hb2 hwd hw1 hwo2 hM hG hbr g0 hnd
      obtain ⟨ws, hws⟩ : ∃ ws, words es = ws := ⟨_, rfl⟩
      have HWE := Lib.hid hws
      have hlb : Hid (arBlock es = arNum ws.length ++ ws.flatMap arText ++ (arRuns (es.map fun e => atW ws e.cas) ++ arRuns (es.map fun e => atW ws e.act) ++ arRuns (es.map fun e => atW ws e.res) ++ arRuns (es.map fun e => e.life.toNat) ++ arTimes 0 es ++ es.flatMap arData)) := by
        refine Lib.hid ?_
        unfold arBlock
        rw [hws]
        simp only [List.append_assoc]
      rw [hws] at hWd HND hwl HWS
      clear hws
      have hr1 : l.length + ((arNum ws.length).length + (ws.flatMap arText).length) ≤ 9000000 := by
        have := HL.out
        rw [hlb.out] at this
        simp only [List.length_append] at this ⊢
        omega
      obtain ⟨Av, cv, rfl, hv1, hv2, hsv⟩ := SlS.open_ (hWd.out.slS (fun s hs => by have := HWS.out s hs; unfold maxLen; omega))
      rw [List.length_map] at hWd hsv hv1 ⊢
      have HC8 := Lib.hid (arNumber_any ws.length base v l w2 (by omega) hA2.own (by have := hb02.size; have := HB.out; omega) (by omega))
      have HA2 := Lib.hid hA2
      have HM2 := Lib.hid (And.intro hM2 hG2)
      have HB02 := Lib.hid hb02
      clear hA2 hM2 hG2 hb02 hsv
      go_wp2_with fail
      (with_reducible refine HC8.out.mono ?_)
      rintro x w3 ⟨v3, rfl, hA3⟩
      have HA3 : Hid (Adds base w v (l ++ arNum ws.length) w3 v3) := Lib.hid (HA2.out.trans hA3)
      have HX3 := Lib.hid (hA3.keepX HA2.out.own)
      have hM3 := HM2.out.1.keepX HX3.out
      have hG3 := HM2.out.2.keepX HX3.out (by decide)
      have HW3 := Lib.hid (hWd.out.keepX HX3.out)
      clear hA3 HC8
      go_wp2_with fail
      go_loopw [0, 44] (fun sv kv wr => ∃ (k nn' : Nat) (F' : Bs → Option Nat), kv = .int .i64 (k : Int) ∧ k ≤ ws.length ∧ Hid (Adds base w v (l ++ arNum ws.length ++ (ws.take k).flatMap arText) wr sv) ∧ MapN wr w.heap.size nn' F' ∧ nn' ≤ nn + k ∧ Hid (Idx F' ws k) ∧ Blk wr (w.heap.size + 1) 116 #[.map (some w.heap.size)] ∧ Hid (OwnS wr wo.heap.size (.slice Av ws.length cv) ws)) (fun _ kv _ => ws.length - (intOf kv).toNat)
      case atStart => exact ⟨0, nn, F, rfl, Nat.zero_le _, Lib.hid (by simpa using HA3.out), hM3, Nat.le_refl _, Lib.hid (fun j s hj => absurd hj (by omega)), hG3, HW3⟩
      case round =>
        obtain ⟨k, nn', F', rfl, hk, HA, hM, hnn', HI, hG, HW⟩ := hrel
        by_cases hlt : k < ws.length
        · have hsv := HW.out.slS (fun s hs => by have := HWS.out s hs; unfold maxLen; omega)
          obtain ⟨b, o, x, rfl, hD, hx, hxs, hc⟩ := SlS.at_ (k := k) hsv hlt
          obtain ⟨s, hs, rfl⟩ : ∃ s, ws[k]? = some s ∧ mkS s = x := by
            rw [List.getElem?_map, Option.map_eq_some_iff] at hx
            exact hx
          have HT := Lib.hid (flat_next arText hs)
          have hft := flat_take arText hs
          obtain ⟨w4, u4, hM4, hg4⟩ := hM.put (s := mkS s) (k := k) hxs (by unfold maxLen; omega) (by omega)
          have HA4 : Hid (Adds base w v (l ++ arNum ws.length ++ (ws.take k).flatMap arText) w4 u0) := Lib.hid (HA.out.put hM hg4 (Nat.le_refl _))
          have HW4 : Hid (OwnS w4 wo.heap.size (.slice (some ⟨b, o, none⟩) ws.length cv) ws) := Lib.hid (HW.out.put hM hg4)
          have HI4 : Hid (Idx (fun t => if t = (mkS s).data.toList then some k else F' t) ws (k + 1)) := Lib.hid (HI.out.put HND.out hs)
          have hG4 := hG.grown hg4 (fun e => hM.ne hG e.symm)
          have HCT := Lib.hid (arText_any (mkS s) base u0 (l ++ arNum ws.length ++ (ws.take k).flatMap arText) w4 (by rw [mkS_size]; have := HWS.out s (List.mem_of_getElem? hs); omega) HA4.out.own (by have := HA4.out.grown.size; have := HB.out; omega) (by rw [mkS_data]; simp only [List.length_append]; omega))
          have hgc := hG.c1
          have HM4 := Lib.hid (And.intro hM4 hG4)
          clear hM hG hM4 hg4 hG4 hsv hft
          go_wp2_with fail
          (with_reducible refine HCT.out.mono ?_)
          rintro x w5 ⟨v5, rfl, hA5⟩
          have HX5 := Lib.hid (hA5.keepX HA4.out.own)
          go_wp2_with fail
          go_roundw
          case rel =>
            refine ⟨k + 1, nn' + 1, _, by go_num, by omega, Lib.hid ?_, HM4.out.1.keepX HX5.out, by omega, HI4, HM4.out.2.keepX HX5.out (by decide), Lib.hid (HW4.out.keepX HX5.out)⟩
            rw [HT.out, ← List.append_assoc]
            exact HA4.out.trans hA5
          case measure => simp [intOf]; omega
        · obtain rfl : k = ws.length := by omega
          rw [List.take_length] at HA
          obtain ⟨L0, hL0⟩ : ∃ L0, l ++ arNum ws.length ++ ws.flatMap arText = L0 := ⟨_, rfl⟩
          rw [hL0] at HA
          obtain ⟨c1, hc1⟩ : ∃ c1, arRuns (es.map fun e => atW ws e.cas) = c1 := ⟨_, rfl⟩
          obtain ⟨c2, hc2⟩ : ∃ c2, arRuns (es.map fun e => atW ws e.act) = c2 := ⟨_, rfl⟩
          obtain ⟨c3, hc3⟩ : ∃ c3, arRuns (es.map fun e => atW ws e.res) = c3 := ⟨_, rfl⟩
          obtain ⟨c4, hc4⟩ : ∃ c4, arRuns (es.map fun e => e.life.toNat) = c4 := ⟨_, rfl⟩
          have hroom : L0.length + c1.length + c2.length + c3.length + c4.length + (arTimes 0 es).length + (es.flatMap arData).length ≤ 9000000 := by
            have h1 := HL.out
            rw [hlb.out, hc1, hc2, hc3, hc4] at h1
            rw [← hL0]
            simp only [List.length_append] at h1 ⊢
            omega
          have HLB : Hid (l ++ arBlock es = L0 ++ c1 ++ c2 ++ c3 ++ c4 ++ arTimes 0 es ++ es.flatMap arData) := by
            refine Lib.hid ?_
            rw [hlb.out, hc1, hc2, hc3, hc4, ← hL0]
            simp only [List.append_assoc]
          have e1 : (es.map fun e => lookN F' e.cas) = es.map fun e => atW ws e.cas := List.map_congr_left fun e he => HI.out.look (by rw [← HWE.out]; exact words_mem.2 ⟨e, he, .inl rfl⟩)
          have b1 : ∀ e ∈ es, lookN F' e.cas < 1000000000 := fun e he => by
            have h1 := HI.out.look (s := e.cas) (by rw [← HWE.out]; exact words_mem.2 ⟨e, he, .inl rfl⟩)
            have h2 := atW_lt (ws := ws) e.cas
            omega
          have e2 : (es.map fun e => lookN F' e.act) = es.map fun e => atW ws e.act := List.map_congr_left fun e he => HI.out.look (by rw [← HWE.out]; exact words_mem.2 ⟨e, he, .inr (.inl rfl)⟩)
          have b2 : ∀ e ∈ es, lookN F' e.act < 1000000000 := fun e he => by
            have h1 := HI.out.look (s := e.act) (by rw [← HWE.out]; exact words_mem.2 ⟨e, he, .inr (.inl rfl)⟩)
            have h2 := atW_lt (ws := ws) e.act
            omega
          have e3 : (es.map fun e => lookN F' e.res) = es.map fun e => atW ws e.res := List.map_congr_left fun e he => HI.out.look (by rw [← HWE.out]; exact words_mem.2 ⟨e, he, .inr (.inr rfl)⟩)
          have b3 : ∀ e ∈ es, lookN F' e.res < 1000000000 := fun e he => by
            have h1 := HI.out.look (s := e.res) (by rw [← HWE.out]; exact words_mem.2 ⟨e, he, .inr (.inr rfl)⟩)
            have h2 := atW_lt (ws := ws) e.res
            omega
          have HHM : Hid (HoldsM (w.heap.size + 1) w.heap.size nn' F' wr) := Lib.hid ⟨hG, hM⟩
          have HSr : Hid (SlEv (Lt base) wr (.slice A es.length c) es) := Lib.hid (SlEv.below HS.out (HA.out.below H0.out HB.out) (Nat.le_refl _))
          have hsz := HA.out.grown.size
          have hbw := HB.out
          have hr1 := runs_any 82 #[.pointer (some ⟨w.heap.size + 1, 0, none⟩)] (fun e => lookN F' e.cas) (HoldsM (w.heap.size + 1) w.heap.size nn' F') (fun _ => True) (takes1 _ _ _ _) es (.slice A es.length c) base u0 (L0) wr b1 (fun _ _ => trivial) HSr.out HHM.out HA.out.own (by omega) (by rw [e1, hc1]; omega)
          rw [e1, hc1] at hr1
          have HR1 := Lib.hid hr1
          clear hr1
          clear hG hM hlt hk hnn'
          go_wp2_with fail
          (with_reducible refine HR1.out.mono ?_)
          rintro x w11 ⟨v11, rfl, hA11⟩
          have HA11 : Hid (Adds base w v (L0 ++ c1) w11 v11) := Lib.hid (HA.out.trans hA11)
          have hsz11 := hA11.grown.size
          have HHM1 := Lib.hid (HHM.out.keepX (hA11.keepX HA.out.own))
          have HS11 := Lib.hid (SlEv.below HSr.out (hA11.below HA.out.own (by omega)) (Nat.le_refl _))
          clear hA11 HR1
          have hr2 := runs_any 83 #[.pointer (some ⟨w.heap.size + 1, 0, none⟩)] (fun e => lookN F' e.act) (HoldsM (w.heap.size + 1) w.heap.size nn' F') (fun _ => True) (takes2 _ _ _ _) es (.slice A es.length c) base v11 (L0 ++ c1) w11 b2 (fun _ _ => trivial) HS11.out HHM1.out HA11.out.own (by omega) (by rw [e2, hc2]; simp only [List.length_append]; omega)
          rw [e2, hc2] at hr2
          have HR2 := Lib.hid hr2
          clear hr2
          go_wp2_with fail
          (with_reducible refine HR2.out.mono ?_)
          rintro x w12 ⟨v12, rfl, hA12⟩
          have HA12 : Hid (Adds base w v (L0 ++ c1 ++ c2) w12 v12) := Lib.hid (HA11.out.trans hA12)
          have hsz12 := hA12.grown.size
          have HHM2 := Lib.hid (HHM1.out.keepX (hA12.keepX HA11.out.own))
          have HS12 := Lib.hid (SlEv.below HS11.out (hA12.below HA11.out.own (by omega)) (Nat.le_refl _))
          clear hA12 HR2
          have hr3 := runs_any 84 #[.pointer (some ⟨w.heap.size + 1, 0, none⟩)] (fun e => lookN F' e.res) (HoldsM (w.heap.size + 1) w.heap.size nn' F') (fun _ => True) (takes3 _ _ _ _) es (.slice A es.length c) base v12 (L0 ++ c1 ++ c2) w12 b3 (fun _ _ => trivial) HS12.out HHM2.out HA12.out.own (by omega) (by rw [e3, hc3]; simp only [List.length_append]; omega)
          rw [e3, hc3] at hr3
          have HR3 := Lib.hid hr3
          clear hr3
          go_wp2_with fail
          (with_reducible refine HR3.out.mono ?_)
          rintro x w13 ⟨v13, rfl, hA13⟩
          have HA13 : Hid (Adds base w v (L0 ++ c1 ++ c2 ++ c3) w13 v13) := Lib.hid (HA12.out.trans hA13)
          have hsz13 := hA13.grown.size
          have HHM3 := Lib.hid (HHM2.out.keepX (hA13.keepX HA12.out.own))
          have HS13 := Lib.hid (SlEv.below HS12.out (hA13.below HA12.out.own (by omega)) (Nat.le_refl _))
          clear hA13 HR3
          have hr4 := runs_any 85 #[] (fun e => e.life.toNat) (fun _ => True) (fun e => 0 ≤ e.life) takes4 es (.slice A es.length c) base v13 (L0 ++ c1 ++ c2 ++ c3) w13 (fun e he => by have := (HOK.out e he).life; omega) (fun e he => by have := (HOK.out e he).life; omega) HS13.out trivial HA13.out.own (by omega) (by rw [hc4]; simp only [List.length_append]; omega)
          rw [hc4] at hr4
          have HR4 := Lib.hid hr4
          clear hr4
          go_wp2_with fail
          (with_reducible refine HR4.out.mono ?_)
          rintro x w14 ⟨v14, rfl, hA14⟩
          have HA14 : Hid (Adds base w v (L0 ++ c1 ++ c2 ++ c3 ++ c4) w14 v14) := Lib.hid (HA13.out.trans hA14)
          have hsz14 := hA14.grown.size
          have HS14 := Lib.hid (SlEv.below HS13.out (hA14.below HA13.out.own (by omega)) (Nat.le_refl _))
          clear hA14 HR4
          clear e1 e2 e3 b1 b2 b3 HHM HHM1 HHM2 HHM3 HI HW
          obtain ⟨L4, hL4⟩ : ∃ L4, L0 ++ c1 ++ c2 ++ c3 ++ c4 = L4 := ⟨_, rfl⟩
          rw [hL4] at HA14 HLB
          have hroom4 : L4.length + (arTimes 0 es).length + (es.flatMap arData).length ≤ 9000000 := by rw [← hL4]; simp only [List.length_append]; omega
          have HSZ : Hid (w.heap.size ≤ w14.heap.size) := Lib.hid HA14.out.grown.size
          clear hroom hL0 hc1 hc2 hc3 hc4 HA HA11 HA12 HA13 HSr HS11 HS12 HS13 hsz hsz11 hsz12 hsz13 hsz14 hL4
          go_wp2_with fail
          go_loopw [0, 11, 73] (fun sv tv kv wr => ∃ (k : Nat) (t : Int) (d : List UInt8), kv = .int .i64 (k : Int) ∧ tv = .int .i64 t ∧ k ≤ es.length ∧ 0 ≤ t ∧ t ≤ 1099511627776 ∧ Hid (∀ e, es[k]? = some e → t ≤ e.time) ∧ Hid (arTimes 0 es = d ++ arTimes t (es.drop k)) ∧ Hid (Adds base w v (L4 ++ d) wr sv)) (fun _ _ kv _ => es.length - (intOf kv).toNat)
          case atStart => exact ⟨0, 0, [], rfl, rfl, Nat.zero_le _, Int.le_refl _, by omega, Lib.hid (fun e he => (HOK.out e (List.mem_of_getElem? he)).time.1), Lib.hid rfl, Lib.hid (by simpa using HA14.out)⟩
          case round =>
            obtain ⟨k, t, d, rfl, rfl, hk, ht0, ht1, HTE, HTD, HA⟩ := hrel
            obtain ⟨w5, rfl⟩ : ∃ w5, w5 = wr := ⟨wr, rfl⟩
            by_cases hlt : k < es.length
            · obtain ⟨b, o, e, dv, rfl, hD, hx, hff, hdv, f0, f1, f2, f3, f4, f5⟩ := SlEv.at_ (SlEv.below HS.out (HA.out.below H0.out HB.out) (Nat.le_refl _)) hlt
              obtain ⟨Ad, cd, rfl, _, _, _⟩ := hdv.open_
              have HX := Lib.hid hx
              have hte := HTE.out e hx
              have hto := (HOK.out e (List.mem_of_getElem? hx)).time
              have hst : arTimes t (es.drop k) = arNum (e.time - t).toNat ++ arTimes e.time (es.drop (k + 1)) := by
                have he : es[k] = e := by rw [List.getElem?_eq_getElem hlt] at hx; injection hx
                rw [List.drop_eq_getElem_cons hlt, he, arTimes]
              have hroom : (L4 ++ d).length + (arNum (e.time - t).toNat).length ≤ 9000000 := by
                have h1 := hroom4
                rw [HTD.out, hst] at h1
                simp only [List.length_append] at h1 ⊢
                omega
              have HST := Lib.hid hst
              have hb2 := bone w5 (.cells #[.string e.cas, .string e.act, .string e.res, .int .i64 e.life, .int .i64 e.time, .slice Ad e.data.length cd] 57)
              have hE2 := Blk.new w5 57 #[.string e.cas, .string e.act, .string e.res, .int .i64 e.life, .int .i64 e.time, .slice Ad e.data.length cd]
              obtain ⟨p0, p1, p2, p3, p4, p5⟩ := hE2.c6
              have HA6 := Lib.hid (HA.out.post hb2)
              have hc := arNumber_any (e.time - t).toNat base u0 (L4 ++ d) _ (by omega) HA6.out.own (by have := HSZ.out; have := HA6.out.grown.size; have := HB.out; omega) hroom
              rw [show ((e.time - t).toNat : Int) = e.time - t by omega] at hc
              have HC := Lib.hid hc
              have hov : -9223372036854775808 ≤ e.time - t ∧ e.time - t ≤ 9223372036854775807 := by omega
              have HE2 := Lib.hid hE2
              clear hc hx hst hroom hff hdv hb2 hE2
              go_wp2_with fail
              (with_reducible refine HC.out.mono ?_)
              rintro x w6 ⟨v6, rfl, hA6⟩
              obtain ⟨r0, r1, r2, r3, r4, r5⟩ := (HE2.out.keepX (hA6.keepX HA6.out.own) (by decide)).c6
              go_wp2_with fail
              go_roundw
              case rel =>
                refine ⟨k + 1, e.time, d ++ arNum (e.time - t).toNat, by go_num, rfl, by omega, by omega, by omega, Lib.hid fun e' he' => ?_, Lib.hid ?_, Lib.hid ?_⟩
                · have h1 := List.pairwise_iff_getElem.1 HMO.out k (k + 1) hlt (List.getElem?_eq_some_iff.1 he').1 (by omega)
                  have h2 : es[k] = e := by have := HX.out; rw [List.getElem?_eq_getElem hlt] at this; injection this
                  have h3 := (List.getElem?_eq_some_iff.1 he').2
                  rw [h2, h3] at h1
                  exact h1
                · rw [HTD.out, HST.out, List.append_assoc]
                · rw [← List.append_assoc]
                  exact HA6.out.trans hA6
              case measure => simp [intOf]; omega
            · obtain rfl : k = es.length := by omega
              have HTD2 : Hid (arTimes 0 es = d) := Lib.hid (by rw [HTD.out, List.drop_eq_nil_of_le (Nat.le_refl _)]; simp [arTimes])
              obtain ⟨L5, hL5⟩ : ∃ L5, L4 ++ d = L5 := ⟨_, rfl⟩
              rw [hL5] at HA
              have HLB5 : Hid (l ++ arBlock es = L5 ++ es.flatMap arData) := Lib.hid (by rw [HLB.out, HTD2.out, hL5])
              have hroom5 : L5.length + (es.flatMap arData).length ≤ 9000000 := by
                rw [← hL5]
                have h1 := hroom4
                rw [HTD2.out] at h1
                simp only [List.length_append]
                omega
              clear hroom4 HTE HTD HTD2 HLB hL5 hk hlt HA14
              go_wp2_with fail
              go_loopw [0, 88] (fun sv kv wr => ∃ k : Nat, kv = .int .i64 (k : Int) ∧ k ≤ es.length ∧ Hid (Adds base w v (L5 ++ (es.take k).flatMap arData) wr sv)) (fun _ kv _ => es.length - (intOf kv).toNat)
              case atStart => exact ⟨0, rfl, Nat.zero_le _, Lib.hid (by simpa using HA.out)⟩
              case round =>
                obtain ⟨k, rfl, hk, HAk⟩ := hrel
                obtain ⟨w7, rfl⟩ : ∃ w7, w7 = wr := ⟨wr, rfl⟩
                by_cases hlt : k < es.length
                · have hBk := HAk.out.below H0.out HB.out
                  obtain ⟨b, o, e, dv, rfl, hD, hx, hff, hdv, f0, f1, f2, f3, f4, f5⟩ := SlEv.at_ HS.out hlt
                  replace f0 := (hBk.cell (p := ⟨b, o + k * 6, none⟩) hD).trans f0
                  replace f1 := (hBk.cell (p := ⟨b, o + k * 6 + 1, none⟩) hD).trans f1
                  replace f2 := (hBk.cell (p := ⟨b, o + k * 6 + 2, none⟩) hD).trans f2
                  replace f3 := (hBk.cell (p := ⟨b, o + k * 6 + 3, none⟩) hD).trans f3
                  replace f4 := (hBk.cell (p := ⟨b, o + k * 6 + 4, none⟩) hD).trans f4
                  replace f5 := (hBk.cell (p := ⟨b, o + k * 6 + 5, none⟩) hD).trans f5
                  obtain ⟨Ad, cd, rfl, hcd1, hcd2, hdv⟩ := hdv.open_
                  have hev := HOK.out e (List.mem_of_getElem? hx)
                  have HEV := Lib.hid hev
                  have HX := Lib.hid hx
                  have HDV := Lib.hid hdv
                  have hd8 := hev.len
                  have HFN := Lib.hid (flat_next arData hx)
                  have hft := flat_take arData hx
                  have hdd : (arData e).length = (arNum e.data.length).length + (e.data.flatMap arFld).length := by unfold arData; rw [List.length_append]
                  have hroom : (L5 ++ (es.take k).flatMap arData).length + (arNum e.data.length).length + (e.data.flatMap arFld).length ≤ 9000000 := by
                    rw [List.length_append]; omega
                  have hb2 := bone w7 (.cells #[.string e.cas, .string e.act, .string e.res, .int .i64 e.life, .int .i64 e.time, .slice Ad e.data.length cd] 57)
                  have hE2 := Blk.new w7 57 #[.string e.cas, .string e.act, .string e.res, .int .i64 e.life, .int .i64 e.time, .slice Ad e.data.length cd]
                  obtain ⟨p0, p1, p2, p3, p4, p5⟩ := hE2.c6
                  have HA6 := Lib.hid (HAk.out.post hb2)
                  have HC := Lib.hid (arNumber_any e.data.length base u0 (L5 ++ (es.take k).flatMap arData) _ (by omega) HA6.out.own (by have := HSZ.out; have := HA6.out.grown.size; have := HB.out; omega) (by omega))
                  have HE2 := Lib.hid hE2
                  clear hx hff hdv hb2 hE2 hft hdd hev hBk
                  go_wp2_with fail
                  (with_reducible refine HC.out.mono ?_)
                  rintro x w8 ⟨v8, rfl, hA8⟩
                  have HA8 := Lib.hid (HA6.out.trans hA8)
                  obtain ⟨r0, r1, r2, r3, r4, r5⟩ := (HE2.out.keepX (hA8.keepX HA6.out.own) (by decide)).c6
                  have hlt8 := Nat.lt_of_lt_of_le HE2.out.lt hA8.grown.size
                  obtain ⟨L6, hL6⟩ : ∃ L6, L5 ++ (es.take k).flatMap arData ++ arNum e.data.length = L6 := ⟨_, rfl⟩
                  rw [hL6] at HA8
                  have hroom6 : L6.length + (e.data.flatMap arFld).length ≤ 9000000 := by rw [← hL6, List.length_append]; omega
                  have HL6 := Lib.hid hL6
                  clear hL6 hA8 HC p0 p1 p2 p3 p4 p5 f0 f1 f2 f3 f4 f5 hroom
                  go_wp2_with fail
                  go_loopw [0, 100] (fun sv jv wr => ∃ j : Nat, jv = .int .i64 (j : Int) ∧ j ≤ e.data.length ∧ Hid (Adds base w v (L6 ++ (e.data.take j).flatMap arFld) wr sv)) (fun _ jv _ => e.data.length - (intOf jv).toNat)
                  case atStart => exact ⟨0, rfl, Nat.zero_le _, Lib.hid (by simpa using HA8.out)⟩
                  case round =>
                    obtain ⟨j, rfl, hj, HAj⟩ := hrel
                    obtain ⟨w9, rfl⟩ : ∃ w9, w9 = wr := ⟨wr, rfl⟩
                    by_cases hjt : j < e.data.length
                    · obtain ⟨b', o', f, rfl, hD', hxf, hff, g0, g1, g2, g3⟩ := SlFl.at_ (SlFl.below HDV.out (HAj.out.below H0.out HB.out) (Nat.le_refl _)) hjt
                      obtain ⟨hfn, hfv⟩ := fld_parts (flds_mem HEV.out.flds f (List.mem_of_getElem? hxf))
                      have HFV := Lib.hid hfv
                      have hfs := (name_size hfn).2
                      have HFN2 := Lib.hid (flat_next arFld hxf)
                      have hft := flat_take arFld hxf
                      have hdd : (arFld f).length = (arText f.nm.data.toList).length + (arVal f.v).length := by unfold arFld; rw [List.length_append]
                      have hroom7 : (L6 ++ (e.data.take j).flatMap arFld).length + (arText f.nm.data.toList).length + (arVal f.v).length ≤ 9000000 := by rw [List.length_append]; omega
                      have HFD : Hid (arFld f = arText f.nm.data.toList ++ arVal f.v) := Lib.hid rfl
                      have hb3 := bone w9 (.cells #[.string f.nm, .int .i64 f.v.kind, .int .i64 f.v.n, .string f.v.s] 64)
                      have hF3 := Blk.new w9 64 #[.string f.nm, .int .i64 f.v.kind, .int .i64 f.v.n, .string f.v.s]
                      have hA9 := HAj.out.post hb3
                      clear hxf hff hft hdd hfn hfv
                      go_upto_region 33 with fail
                      obtain ⟨w10, hw10⟩ : ∃ w10, w9.alloc (.cells #[.string f.nm, .int .i64 f.v.kind, .int .i64 f.v.n, .string f.v.s] 64) = w10 := ⟨_, rfl⟩
                      rw [hw10] at hb3 hF3 hA9 ⊢
                      clear hw10 g0 g1 g2 g3
                      have hsz10 : base ≤ w10.heap.size := by have := HSZ.out; have := hA9.grown.size; have := HB.out; omega
                      have HA9 : Hid (Adds base w v (L6 ++ (e.data.take j).flatMap arFld) w10.drew u0) := Lib.hid (hA9.post ((Below.refl _ _).drew))
                      have hF4 : Blk w10.drew w9.heap.size 64 #[.string f.nm, .int .i64 f.v.kind, .int .i64 f.v.n, .string f.v.s] := hF3
                      obtain ⟨p0, p1, p2, p3⟩ := hF4.c4
                      have HCT := Lib.hid (arText_any f.nm base u0 (L6 ++ (e.data.take j).flatMap arFld) w10.drew (by omega) HA9.out.own hsz10 (by omega))
                      have HF4 := Lib.hid hF4
                      clear hF3 hF4 hA9 hb3
                      go_region_with (first
                        | (go_at_call 80; (with_reducible refine HCT.out.mono ?_); rintro x w11 ⟨v11, rfl, hA11⟩; obtain ⟨s0, s1, s2, s3⟩ := (HF4.out.keepX (hA11.keepX HA9.out.own) (by decide)).c4; have hdt := Lib.hid (datum_agg f.v base v11 (L6 ++ (e.data.take j).flatMap arFld ++ arText f.nm.data.toList) w11 HFV.out hA11.own (Nat.le_trans hsz10 hA11.grown.size) (by rw [List.length_append]; omega)))
                        | (go_at_call 86; (with_reducible refine hdt.out.mono ?_); rintro x w12 ⟨v12, rfl, hA12⟩))
                      all_goals
                        go_wp2_with fail
                        go_roundw
                        case rel =>
                          refine ⟨j + 1, by go_num, by omega, Lib.hid ?_⟩
                          rw [HFN2.out, HFD.out]
                          have := (HA9.out.trans hA11).trans hA12
                          simp only [List.append_assoc] at this ⊢
                          exact this
                        case measure => simp [intOf]; omega
                    · obtain rfl : j = e.data.length := by omega
                      rw [List.take_length] at HAj
                      go_wp2_with fail
                      go_roundw
                      case rel =>
                        refine ⟨k + 1, by go_num, by omega, Lib.hid ?_⟩
                        have := HAj.out
                        rw [← HL6.out] at this
                        rw [HFN.out]
                        unfold arData
                        simp only [List.append_assoc] at this ⊢
                        exact this
                      case measure => simp [intOf]; omega
                · obtain rfl : k = es.length := by omega
                  rw [List.take_length] at HAk
                  go_wp2_with fail
                  go_ret
                  exact ⟨_, rfl, by rw [HLB5.out]; exact HAk.out⟩
end Go.Proofs.YtjglmjdfndcmmaaGreat
