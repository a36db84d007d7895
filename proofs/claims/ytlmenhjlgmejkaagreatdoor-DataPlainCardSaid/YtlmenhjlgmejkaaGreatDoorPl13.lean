/- Merged texts. -/
import Derived.IntWalk
import Derived.Test.YtlmenhjlgmejkaaGreatDoorPl12
set_option linter.all false
namespace Go.Proofs.YtlmenhjlgmejkaaGreatDoor
open Go.RowKit
def RWr (n : Nat) : ElemR Wr := fun D w x cs => ∃ lv, cs = [.int .i64 x.var, .int .i64 x.x.op, .int .i64 x.x.v.kind, .int .i64 x.x.v.n, .string x.x.v.s, .string x.x.s, lv] ∧ Fit x.var ∧
  IsEx n D w (.agg #[.int .i64 x.x.op, .int .i64 x.x.v.kind, .int .i64 x.x.v.n, .string x.x.v.s, .string x.x.s, lv]) x.x
theorem IsEx.keep {n : Nat} {D D' : Nat → Prop} {w w' : World} {u : Value} {x : Ex} (h : IsEx n D w u x) (hd : ∀ b, D b → D' b) (hs : Same D w w') : IsEx n D' w' u x := by
  obtain ⟨lv, e, h1, h2, h3, h4⟩ := h
  exact ⟨lv, e, h1, h2, h3, Sl.keep h4 (RExN.kept n) hd hs⟩
theorem RWr.kept (n : Nat) : ElemR.Kept (RWr n) := by
  rintro D D' w w' x cs hd hs ⟨lv, rfl, h1, h2⟩
  exact ⟨lv, rfl, h1, h2.keep hd hs⟩
def SlW (n : Nat) := Sl 7 (RWr n)
def RWRow (n : Nat) : ElemR (List Wr) := fun D w r cs => ∃ v, cs = [v] ∧ SlW n D w v r
theorem RWRow.kept (n : Nat) : ElemR.Kept (RWRow n) := by
  rintro D D' w w' x cs hd hs ⟨v, rfl, h⟩
  exact ⟨v, rfl, Sl.keep h (RWr.kept n) hd hs⟩
def SlWW (n : Nat) := Sl 1 (RWRow n)
def IsDn (n : Nat) (D : Nat → Prop) (w : World) (u : Value) (d : DNet) : Prop :=
  ∃ tv xv iv gv wv, u = .agg #[.int .i64 d.net.places, tv, .int .i64 d.net.source, .int .i64 d.net.sink, xv, iv, gv, wv] ∧ IsNet D w (.agg #[.int .i64 d.net.places, tv, .int .i64 d.net.source, .int .i64 d.net.sink]) d.net ∧
    SlX D w xv d.vars ∧ SlV D w iv d.init ∧ SlE n D w gv d.guards ∧ SlWW n D w wv d.writes
def IsSt (D : Nat → Prop) (w : World) (u : Value) (s : St) : Prop := ∃ mv vv, u = .agg #[mv, vv] ∧ SlI D w mv s.marks ∧ SlV D w vv s.vals
def RSt : ElemR St := fun D w s cs => ∃ mv vv, cs = [mv, vv] ∧ SlI D w mv s.marks ∧ SlV D w vv s.vals
theorem RSt.kept : ElemR.Kept RSt := by
  rintro D D' w w' x cs hd hs ⟨mv, vv, rfl, h1, h2⟩
  exact ⟨mv, vv, rfl, Sl.keep h1 RInt.kept hd hs, Sl.keep h2 RVal.kept hd hs⟩
def SlSt := Sl 2 RSt
section
variable {w w' : World} {u : Value} {n : Nat}
theorem SlW.now {zs : List Wr} (h : SlW n (Lt w.heap.size) w u zs) (hb : Below w.heap.size w w') : SlW n (Lt w'.heap.size) w' u zs := Sl.below h (RWr.kept n) hb hb.size
theorem SlWW.now {zs : List (List Wr)} (h : SlWW n (Lt w.heap.size) w u zs) (hb : Below w.heap.size w w') : SlWW n (Lt w'.heap.size) w' u zs := Sl.below h (RWRow.kept n) hb hb.size
theorem SlSt.now {zs : List St} (h : SlSt (Lt w.heap.size) w u zs) (hb : Below w.heap.size w w') : SlSt (Lt w'.heap.size) w' u zs := Sl.below h RSt.kept hb hb.size
theorem IsDn.now {d : DNet} (h : IsDn n (Lt w.heap.size) w u d) (hb : Below w.heap.size w w') : IsDn n (Lt w'.heap.size) w' u d := by
  obtain ⟨tv, xv, iv, gv, wv, e, h1, h2, h3, h4, h5⟩ := h
  exact ⟨tv, xv, iv, gv, wv, e, h1.now hb, h2.now hb, h3.now hb, SlE.now h4 hb, SlWW.now h5 hb⟩
theorem IsSt.now {s : St} (h : IsSt (Lt w.heap.size) w u s) (hb : Below w.heap.size w w') : IsSt (Lt w'.heap.size) w' u s := by
  obtain ⟨mv, vv, e, h1, h2⟩ := h
  exact ⟨mv, vv, e, h1.now hb, h2.now hb⟩
variable {D : Nat → Prop}
theorem SlWW.at_ {zs : List (List Wr)} {A : Option Addr} {m c k : Nat} (h : SlWW n D w (.slice A m c) zs) (hk : k < m) :
    ∃ b o r v, A = some ⟨b, o, none⟩ ∧ D b ∧ zs[k]? = some r ∧ SlW n D w v r ∧ w.cell? ⟨b, o + k, none⟩ = some v := by
  obtain ⟨b, o, x, u, hA, hD, hx, ⟨u', hu, hf⟩, hc⟩ := Sl.at1 h hk
  injection hu with hu; subst hu
  exact ⟨b, o, x, u, hA, hD, hx, hf, hc⟩
theorem SlSt.at_ {zs : List St} {A : Option Addr} {m c k : Nat} (h : SlSt D w (.slice A m c) zs) (hk : k < m) :
    ∃ b o s mv vv, A = some ⟨b, o, none⟩ ∧ D b ∧ zs[k]? = some s ∧ SlI D w mv s.marks ∧ SlV D w vv s.vals ∧ w.cell? ⟨b, o + k * 2, none⟩ = some mv ∧ w.cell? ⟨b, o + k * 2 + 1, none⟩ = some vv := by
  obtain ⟨b, o, x, u0, u1, hA, hD, hx, ⟨mv, vv, hu, h1, h2⟩, hc0, hc1⟩ := Sl.at2 h hk
  injection hu with e0 hu; injection hu with e1 hu
  subst e0 e1
  exact ⟨b, o, x, u0, u1, hA, hD, hx, h1, h2, hc0, hc1⟩
theorem SlW.at_ {zs : List Wr} {A : Option Addr} {m c k : Nat} (h : SlW n D w (.slice A m c) zs) (hk : k < m) :
    ∃ b o x lv, A = some ⟨b, o, none⟩ ∧ D b ∧ zs[k]? = some x ∧ Fit x.var ∧ IsEx n D w (.agg #[.int .i64 x.x.op, .int .i64 x.x.v.kind, .int .i64 x.x.v.n, .string x.x.v.s, .string x.x.s, lv]) x.x ∧
      w.cell? ⟨b, o + k * 7, none⟩ = some (.int .i64 x.var) ∧ w.cell? ⟨b, o + k * 7 + 1, none⟩ = some (.int .i64 x.x.op) ∧ w.cell? ⟨b, o + k * 7 + 2, none⟩ = some (.int .i64 x.x.v.kind) ∧ w.cell? ⟨b, o + k * 7 + 3, none⟩ = some (.int .i64 x.x.v.n) ∧
      w.cell? ⟨b, o + k * 7 + 4, none⟩ = some (.string x.x.v.s) ∧ w.cell? ⟨b, o + k * 7 + 5, none⟩ = some (.string x.x.s) ∧ w.cell? ⟨b, o + k * 7 + 6, none⟩ = some lv := by
  obtain ⟨A', c', hv, h1, h2, h3⟩ := h
  injection hv with hA hn hc
  subst hA hn hc
  obtain ⟨b, o, cs, hA, hD, hl, ⟨lv, rfl, hf, hx⟩, hcell⟩ := h3 k zs[k] (List.getElem?_eq_getElem hk)
  exact ⟨b, o, zs[k], lv, hA, hD, List.getElem?_eq_getElem hk, hf, hx, hcell 0 _ rfl, hcell 1 _ rfl, hcell 2 _ rfl, hcell 3 _ rfl, hcell 4 _ rfl, hcell 5 _ rfl, hcell 6 _ rfl⟩
end
set_option maxHeartbeats 1000000 in
theorem dtyped_any (n : Nat) (vs : List Var) (x : Ex) (k : Int) (uv u : Value) (w : World) (hv : SlX (Lt w.heap.size) w uv vs) (h : IsEx n (Lt w.heap.size) w u x) (hl : vs.length ≤ 1000000) :
    Calls Tryz.prog 81 #[uv, u, .int .i64 k] w fun e w' => e = .returned (.bool (typedB vs x k)) ∧ Below w.heap.size w w' := by
  have h0 := h
  obtain ⟨lv, rfl, h1, h2, h3, h4⟩ := h
  have hb := bone w (.cells #[.int .i64 x.op, .int .i64 x.v.kind, .int .i64 x.v.n, .string x.v.s, .string x.s, lv] 65)
  have HC := Lib.hid (type_any n vs x _ _ _ (hv.now hb) (h0.now hb) hl)
  have HT : Hid (typedB vs x k = (decide ((givenE vs x).2 = 0) && decide ((givenE vs x).1 = k))) := rfl
  clear h0 hv h4
  generalize givenE vs x = p at *
  obtain ⟨a, z⟩ := p
  dsimp only at *
  go_enter Tryz.func81, Tryz.ntmps81
  go_wp2_with fail
  refine HC.out.mono ?_
  rintro e w1 ⟨rfl, hf, hb1⟩
  have hbw := bthen hb hb1
  by_cases hz : z = 0
  · have b1 : (z == 0) = true := by simp [hz]
    have HR : Hid (typedB vs x k = (a == k)) := by show _ = _; rw [HT.out, decide_eq_true hz, Bool.true_and]; rfl
    clear hz
    go_wp2_with fail
    go_ret
    exact ⟨ret_bool HR.out.symm, hbw⟩
  · have b1 : (z == 0) = false := by simpa using hz
    have HR : Hid (typedB vs x k = false) := by show _ = _; rw [HT.out, decide_eq_false hz]; rfl
    clear hz
    go_wp2_with fail
    go_ret
    exact ⟨ret_bool HR.out.symm, hbw⟩
theorem dassigned_any (vs : List Var) (vals : List Val) (uv vv : Value) (w : World) (hv : SlX (Lt w.heap.size) w uv vs) (hw : SlV (Lt w.heap.size) w vv vals) (hl : vs.length ≤ 1000000) :
    Calls Tryz.prog 78 #[uv, vv] w fun e w' => e = .returned (.bool (asgB vs vals)) ∧ Below w.heap.size w w' := by
  have HC := Lib.hid (inAllE_any vs vals uv vv w hv hw hl)
  have HT : Hid (asgB vs vals = (decide ((inAllE vs vals).2 = 0) && (inAllE vs vals).1)) := rfl
  generalize inAllE vs vals = p at *
  obtain ⟨b, z⟩ := p
  dsimp only at *
  clear hv hw
  go_enter Tryz.func78, Tryz.ntmps78
  go_wp2_with fail
  refine HC.out.mono ?_
  rintro e w1 ⟨rfl, hb1⟩
  by_cases hz : z = 0
  · have b1 : (z == 0) = true := by simp [hz]
    have HR : Hid (asgB vs vals = b) := by show _ = _; rw [HT.out, decide_eq_true hz, Bool.true_and]
    clear hz
    go_wp2_with fail
    go_ret
    exact ⟨ret_bool HR.out.symm, hb1⟩
  · have b1 : (z == 0) = false := by simpa using hz
    have HR : Hid (asgB vs vals = false) := by show _ = _; rw [HT.out, decide_eq_false hz]; rfl
    clear hz
    go_wp2_with fail
    go_ret
    exact ⟨ret_bool HR.out.symm, hb1⟩
def Fr (B : Nat) (w : World) (b : Nat) : Prop := B ≤ b ∧ b < w.heap.size
theorem SlI.weak {B : Nat} {w : World} {v : Value} {zs : List Int} (h : SlI (Fr B w) w v zs) : SlI (Lt w.heap.size) w v zs := Sl.keep h RInt.kept (fun _ hb => hb.2) (Same.refl _ _)
theorem SlI.nowF {B : Nat} {w w' : World} {v : Value} {zs : List Int} (h : SlI (Fr B w) w v zs) (hb : Below w.heap.size w w') : SlI (Fr B w') w' v zs :=
  Sl.keep h RInt.kept (fun _ hx => ⟨hx.1, Nat.lt_of_lt_of_le hx.2 hb.size⟩) (fun b hx => hb.block b hx.2)
theorem SlI.from_ {B B' : Nat} {w : World} {v : Value} {zs : List Int} (h : SlI (Fr B w) w v zs) (hb : B' ≤ B) : SlI (Fr B' w) w v zs :=
  Sl.keep h RInt.kept (fun _ hx => ⟨Nat.le_trans hb hx.1, hx.2⟩) (Same.refl _ _)
theorem fresh_own {w : World} {base B g cap : Nat} {zs : List Int} (h : OwnI w base 3 g cap zs) (hB : B ≤ base) (hf : ∀ z ∈ zs, Fit z) : SlI (Fr B w) w (.slice (some ⟨g, 0, none⟩) zs.length cap) zs :=
  Sl.of_own1 h.1 (by simp) (fun q hq => by have := h.1.lt q hq; exact ⟨by omega, this.2⟩) fun i x hx => ⟨.int .i64 x, by simp [hx], rfl, hf x (List.mem_of_getElem? hx)⟩
def RetIF (zs : List Int) (c : Int) (w : World) (e : Ending) (w' : World) : Prop := ∃ v, e = .returned (.tuple #[v, .int .i64 c]) ∧ SlI (Fr w.heap.size w') w' v zs ∧ Below w.heap.size w w'
set_option maxHeartbeats 1000000 in
theorem fireF_any (n : Net) (v mv : Value) (m : List Int) (t : Int) (w : World) (h : IsNet (Lt w.heap.size) w v n) (hm : SlI (Lt w.heap.size) w mv m) (hv : validB n = true) (hk : markingB n.places m = true) :
    Calls Tryz.prog 91 #[v, mv, .int .i64 t] w (RetIF (fireB n m t).1 (fireB n m t).2 w) := by
  obtain ⟨v1, v2, v3, v4⟩ := validOk hv
  obtain ⟨hml, hmw⟩ := markOk hk
  clear hv hk
  obtain ⟨tv, rfl, hp, hs, hkk, ht⟩ := h
  obtain ⟨A, c, rfl, h1, h2, ht⟩ := ht.open_
  by_cases h0 : t < 0
  · rw [fireB_none (.inl h0)]
    go_enter Tryz.func91, Tryz.ntmps91
    go_wp2_with fail
    go_ret2
    exact ⟨_, rfl, Sl.none_, bone _ _⟩
  obtain ⟨k, rfl⟩ := Int.eq_ofNat_of_zero_le (Int.not_lt.1 h0)
  by_cases h3 : n.trans.length ≤ k
  · rw [fireB_none (.inr (by omega))]
    go_enter Tryz.func91, Tryz.ntmps91
    go_wp2_with fail
    go_ret2
    exact ⟨_, rfl, Sl.none_, bone _ _⟩
  have hkl : k < n.trans.length := by omega
  have hb := bone w (Obj.cells #[Value.int IntKind.i64 n.places, Value.slice A n.trans.length c, Value.int IntKind.i64 n.source, Value.int IntKind.i64 n.sink] 24)
  obtain ⟨b, o, x, iv, ov, rfl, hD, hx, hl, hti, hto, c0, c1, c2⟩ := (ht.now hb).at_ hkl
  rw [fireB_some hx]
  obtain ⟨Ai, ci, rfl, i1, i2, hti⟩ := hti.open_
  obtain ⟨Ao, co, rfl, o1, o2, hto⟩ := hto.open_
  obtain ⟨pi, po⟩ := trPlaces (v4 x (List.mem_of_getElem? hx))
  have li := places_len pi
  have lo := places_len po
  have hin : Inside x.ins m := fun p hp => by have := places_mem pi p hp; omega
  have hout : Inside x.outs m := fun p hp => by have := places_mem po p hp; omega
  have hnn : NonNeg m := fun z hz => (hmw z hz).1
  have hm0 : 0 < m.length := by omega
  have HMW := Lib.hid hmw
  clear hx v4 pi po hmw h0 h3
  go_enter Tryz.func91, Tryz.ntmps91
  go_wp2_with fail
  have hm1 := hm.now (bbox hb (.cells #[.string x.label, .slice Ai x.ins.length ci, .slice Ao x.outs.length co] 112))
  have hti1 := hti.now (bone _ (.cells #[.string x.label, .slice Ai x.ins.length ci, .slice Ao x.outs.length co] 112))
  have hto1 := hto.now (bone _ (.cells #[.string x.label, .slice Ai x.ins.length ci, .slice Ao x.outs.length co] 112))
  have hT1 := Blk.new (w.alloc (.cells #[Value.int IntKind.i64 n.places, Value.slice (some ⟨b, o, none⟩) n.trans.length c, Value.int IntKind.i64 n.source, Value.int IntKind.i64 n.sink] 24)) 112 #[.string x.label, .slice Ai x.ins.length ci, .slice Ao x.outs.length co]
  refine (enabled_any x _ _ m _ ⟨_, _, rfl, hl, hti1, hto1⟩ hm1 hin hnn).mono ?_
  rintro e w1 ⟨rfl, hb1⟩
  have hm2 := hm1.now hb1
  have hti2 := hti1.now hb1
  have hto2 := hto1.now hb1
  have hT2 := hT1.now hb1
  have hbw1 := bthen (bbox hb (.cells #[.string x.label, .slice Ai x.ins.length ci, .slice Ao x.outs.length co] 112)) hb1
  simp only [World.size_alloc] at hT2
  clear hm1 hti1 hto1 hT1 hti hto hm hb hb1 c0 c1 c2
  generalize hc : canB x.ins m = q
  have HC := Lib.hid hc
  clear hc
  cases q
  · have HE : Hid (fireT x m = ([], 12)) := by show fireT x m = _; unfold fireT; rw [HC.out]; rfl
    go_wp2_with fail
    go_ret2
    rw [HE.out]
    exact ⟨_, rfl, Sl.none_, hbw1⟩
  · go_wp2_with fail
    refine (cloneI _ m _ hm2 (by omega)).mono ?_
    rintro e w2 ⟨vo, rfl, hown, hb2⟩
    obtain ⟨g, cap, rfl, hcap, hown⟩ := OwnI.of hown hm0
    clear hm2
    obtain ⟨r0, r1, r2⟩ := (hT2.now hb2).c3
    go_wp2_with fail
    clear r0 r1 r2
    go_loopw [37] (fun i wr => ∃ j : Nat, j ≤ x.ins.length ∧ i = .int .i64 j ∧ OwnI wr w1.heap.size 3 g cap (bump (-1) m (x.ins.take j)) ∧ Below w1.heap.size w1 wr) (fun i _ => x.ins.length - (intOf i).toNat)
    case atStart => exact ⟨0, Nat.zero_le _, rfl, hown, hb2⟩
    case round =>
      obtain ⟨j, hj, rfl, howr, hbr⟩ := hrel
      obtain ⟨r0, r1, r2⟩ := (hT2.now hbr).c3
      have hgb := howr.from_
      by_cases hlt : j < x.ins.length
      · obtain ⟨b1, o1', p, rfl, hD1, hx1, hf1, d1⟩ := (hti2.now hbr).at_ hlt
        obtain ⟨hp0, hp1⟩ := hin p (List.mem_of_getElem? hx1)
        obtain ⟨y, rfl⟩ := Int.eq_ofNat_of_zero_le hp0
        rw [Int.toNat_natCast] at hp1
        have hyl : y < (bump (-1) m (x.ins.take j)).length := by rw [bump_length]; exact hp1
        have hcell := howr.cell (get_of_within hyl)
        have hfro := howr.frozen y
        have hwi := within_get (within_bump (-1) (.inr rfl) (x.ins.take j) 0 100 _ HMW.out (by omega) (by omega) (fun q hq => (hin q (List.mem_of_mem_take hq)).2)) hyl
        rw [List.length_take, Nat.min_eq_left hj] at hwi
        have HS : Hid (bump (-1) m (x.ins.take (j + 1)) = (bump (-1) m (x.ins.take j)).set y ((bump (-1) m (x.ins.take j)).getD y 0 + (-1))) := by
          have := bump_snoc (-1) m x.ins j _ hx1
          unfold bump1 at this
          rwa [Int.toNat_natCast] at this
        generalize hz : (bump (-1) m (x.ins.take j)).getD y 0 = z at hcell hwi HS
        clear hz hx1 hf1 hD1
        go_wp2_with fail
        go_roundw
        case rel =>
          refine ⟨j + 1, by omega, by go_num, ?_, hbr.setCell hgb _⟩
          rw [HS.out]
          exact howr.set_ y _
        case measure => simp [intOf]; omega
      · obtain rfl : j = x.ins.length := by omega
        rw [List.take_of_length_le (Nat.le_refl _)] at howr
        have HW1 : Hid (Within (-40) 140 (bump (-1) m x.ins)) := within_mono (within_bump (-1) (.inr rfl) x.ins 0 100 m HMW.out (by omega) (by omega) (fun q hq => (hin q hq).2)) (by omega) (by omega)
        obtain ⟨wi, rfl⟩ : ∃ wi : World, wi = wr := ⟨_, rfl⟩
        have howi := howr
        have hbi := hbr
        clear howr
        go_wp2_with fail
        go_loopw [51] (fun i wr => ∃ j : Nat, j ≤ x.outs.length ∧ i = .int .i64 j ∧ OwnI wr w1.heap.size 3 g cap (bump 1 (bump (-1) m x.ins) (x.outs.take j)) ∧ Below w1.heap.size w1 wr) (fun i _ => x.outs.length - (intOf i).toNat)
        case atStart => exact ⟨0, Nat.zero_le _, rfl, howi, hbi⟩
        case round =>
          obtain ⟨j, hj, rfl, howr, hbr⟩ := hrel
          obtain ⟨r0, r1, r2⟩ := (hT2.now hbr).c3
          have hgb := howr.from_
          by_cases hlt : j < x.outs.length
          · obtain ⟨b1, o1', p, rfl, hD1, hx1, hf1, d1⟩ := (hto2.now hbr).at_ hlt
            obtain ⟨hp0, hp1⟩ := hout p (List.mem_of_getElem? hx1)
            obtain ⟨y, rfl⟩ := Int.eq_ofNat_of_zero_le hp0
            rw [Int.toNat_natCast] at hp1
            have hyl : y < (bump 1 (bump (-1) m x.ins) (x.outs.take j)).length := by rw [bump_length]; rw [bump_length]; exact hp1
            have hcell := howr.cell (get_of_within hyl)
            have hfro := howr.frozen y
            have hwi := within_get (within_bump 1 (.inl rfl) (x.outs.take j) (-40) 140 _ HW1.out (by omega) (by omega) (fun q hq => by rw [bump_length]; exact (hout q (List.mem_of_mem_take hq)).2)) hyl
            rw [List.length_take, Nat.min_eq_left hj] at hwi
            have HS : Hid (bump 1 (bump (-1) m x.ins) (x.outs.take (j + 1)) = (bump 1 (bump (-1) m x.ins) (x.outs.take j)).set y ((bump 1 (bump (-1) m x.ins) (x.outs.take j)).getD y 0 + 1)) := by
              have := bump_snoc 1 (bump (-1) m x.ins) x.outs j _ hx1
              unfold bump1 at this
              rwa [Int.toNat_natCast] at this
            generalize hz : (bump 1 (bump (-1) m x.ins) (x.outs.take j)).getD y 0 = z at hcell hwi HS
            clear hz hx1 hf1 hD1
            go_wp2_with fail
            go_roundw
            case rel =>
              refine ⟨j + 1, by omega, by go_num, ?_, hbr.setCell hgb _⟩
              rw [HS.out]
              exact howr.set_ y _
            case measure => simp [intOf]; omega
          · obtain rfl : j = x.outs.length := by omega
            rw [List.take_of_length_le (Nat.le_refl _)] at howr
            have hfin : OwnI wr w1.heap.size 3 g cap (outOf x m) := howr
            have hlen : (outOf x m).length = m.length := by unfold outOf; rw [bump_length, bump_length]
            have hfits := within_fit (within_bump 1 (.inl rfl) x.outs (-40) 140 _ HW1.out (by omega) (by omega) (fun q hq => by rw [bump_length]; exact (hout q hq).2)) (by omega) (by omega)
            have HSL := Lib.hid (hfin.sl hfits)
            have HSF : Hid (SlI (Fr w.heap.size wr) wr (.slice (some ⟨g, 0, none⟩) m.length cap) (outOf x m)) := by rw [← hlen]; exact fresh_own hfin hbw1.size hfits
            have HBW := Lib.hid (bthen hbw1 hbr)
            have HMX : Hid (Calls Tryz.prog 133 #[.slice (some ⟨g, 0, none⟩) m.length cap] wr fun e w' => e = .returned (.int .i64 (Lib.maxOf (outOf x m))) ∧ w' = wr) := by
              have := maxI _ _ wr HSL.out (by omega)
              rwa [hlen] at this
            rw [hlen] at HSL
            clear howr hfin hlen hfits hbr r0 r1 r2
            by_cases hmx : 100 < Lib.maxOf (outOf x m)
            · have HE : Hid (fireT x m = ([], 5)) := by show fireT x m = _; unfold fireT; rw [HC.out, if_pos hmx]; rfl
              generalize Lib.maxOf (outOf x m) = mx at HMX hmx
              go_wp2_with (go_at_call 133; refine HMX.out.mono ?_; rintro e w' ⟨rfl, rfl⟩)
              go_ret2
              rw [HE.out]
              exact ⟨_, rfl, Sl.none_, HBW.out⟩
            · have HE : Hid (fireT x m = (outOf x m, 0)) := by show fireT x m = _; unfold fireT; rw [HC.out, if_neg hmx]; rfl
              generalize Lib.maxOf (outOf x m) = mx at HMX hmx
              go_wp2_with (go_at_call 133; refine HMX.out.mono ?_; rintro e w' ⟨rfl, rfl⟩)
              go_ret2
              rw [HE.out]
              exact ⟨_, rfl, HSF.out, HBW.out⟩
set_option maxHeartbeats 1000000 in
theorem firePF_any (n : Net) (v mv : Value) (m : List Int) (t : Int) (w : World) (h : IsNet (Lt w.heap.size) w v n) (hm : SlI (Lt w.heap.size) w mv m) :
    Calls Tryz.prog 47 #[v, mv, .int .i64 t] w (RetIF (fireE n m t).1 (fireE n m t).2 w) := by
  have h0 := h
  obtain ⟨tv, rfl, hp, hs, hkk, ht⟩ := h
  obtain ⟨A, c, rfl, h1, h2, ht⟩ := ht.open_
  go_enter Tryz.func47, Tryz.ntmps47
  go_wp2_with fail
  have hb := bone w (Obj.cells #[Value.int IntKind.i64 n.places, Value.slice A n.trans.length c, Value.int IntKind.i64 n.source, Value.int IntKind.i64 n.sink] 24)
  refine (marking_any n _ _ m _ (h0.now hb) (hm.now hb)).mono ?_
  rintro e w1 ⟨rfl, hb1⟩
  have hbw := bthen hb hb1
  obtain ⟨q0, q1, q2, q3⟩ := ((Blk.new w 24 #[.int .i64 n.places, .slice A n.trans.length c, .int .i64 n.source, .int .i64 n.sink]).now hb1).c4
  generalize hq : (validB n && markingB n.places m) = q
  have HQ := Lib.hid hq
  clear hq
  cases q
  · have HE : Hid (fireE n m t = ([], 1)) := by show fireE n m t = _; unfold fireE; rw [HQ.out]; rfl
    go_wp2_with fail
    go_ret2
    rw [HE.out]
    exact ⟨_, rfl, Sl.none_, hbw⟩
  · have HE : Hid (fireE n m t = fireB n m t) := by show fireE n m t = _; unfold fireE; rw [HQ.out]; rfl
    have hvm := HQ.out
    rw [Bool.and_eq_true] at hvm
    have HF := Lib.hid (fireF_any n _ _ m t w1 (h0.now hbw) (hm.now hbw) hvm.1 hvm.2)
    clear hvm
    go_wp2_with fail
    refine HF.out.mono ?_
    rintro e w2 ⟨v', rfl, hsl, hb2⟩
    clear HF
    generalize fireB n m t = r at *
    go_wp2_with fail
    go_ret2
    rw [HE.out]
    exact ⟨_, rfl, Sl.keep hsl RInt.kept (fun b hb => ⟨Nat.le_trans hbw.size hb.1, hb.2⟩) (Same.refl _ _), bthen hbw hb2⟩
def readB : List UInt8 → List UInt8 → Int × List UInt8 × List UInt8
  | _, [] => (4, [], [])
  | acc, c :: r =>
    if c.toNat = 34 then (0, acc, r)
    else if c.toNat = 92 then
      match r with
      | [] => (4, [], [])
      | d :: r' => if d.toNat = 34 ∨ d.toNat = 92 then readB (acc ++ [d]) r' else (3, [], [])
    else readB (acc ++ [c]) r
theorem read_end {acc r : List UInt8} {c : UInt8} (h : c.toNat = 34) : readB acc (c :: r) = (0, acc, r) := by rw [readB.eq_def]; exact if_pos h
theorem read_esc {acc r : List UInt8} {c d : UInt8} (h1 : c.toNat ≠ 34) (h2 : c.toNat = 92) (h3 : d.toNat = 34 ∨ d.toNat = 92) : readB acc (c :: d :: r) = readB (acc ++ [d]) r := by rw [readB, if_neg h1, if_pos h2, if_pos h3]
theorem read_one {acc r : List UInt8} {c : UInt8} (h1 : c.toNat ≠ 34) (h2 : c.toNat ≠ 92) : readB acc (c :: r) = readB (acc ++ [c]) r := by rw [readB.eq_def]; exact (if_neg h1).trans (if_neg h2)
theorem escC_esc {c : UInt8} (h : c.toNat = 34 ∨ c.toNat = 92) : escC c = [92, c] := if_pos h
theorem escC_one {c : UInt8} (h : ¬ (c.toNat = 34 ∨ c.toNat = 92)) : escC c = [c] := if_neg h
theorem read_quote (t rest : List UInt8) : ∀ acc, readB acc (escB t ++ 34 :: rest) = (0, acc ++ t, rest) := by
  induction t with
  | nil => intro acc; rw [show escB [] ++ 34 :: rest = 34 :: rest from rfl, read_end rfl, List.append_nil]
  | cons c t ih =>
    intro acc
    have e : escB (c :: t) = escC c ++ escB t := by unfold escB; rw [List.flatMap_cons]
    rw [e, List.append_assoc]
    by_cases h : c.toNat = 34 ∨ c.toNat = 92
    · rw [escC_esc h, List.cons_append, List.cons_append, List.nil_append, read_esc (by decide) rfl h, ih, List.append_assoc]; rfl
    · rw [escC_one h, List.cons_append, List.nil_append, read_one (fun e => h (.inl e)) (fun e => h (.inr e)), ih, List.append_assoc]; rfl
def endE : Int × List UInt8 × List UInt8 → ByteArray × Int
  | (0, t, []) => if 16384 < t.length then (⟨#[]⟩, 5) else (⟨t.toArray⟩, 0)
  | (0, _, _ :: _) => (⟨#[]⟩, 3)
  | (e, _, _) => (⟨#[]⟩, e)
def headB (l : List UInt8) : Bool := match l with
  | [] => false
  | c :: _ => decide (c.toNat = 34)
def unquoteE (s : ByteArray) : ByteArray × Int :=
  if 32770 < s.size then (⟨#[]⟩, 5)
  else if headB s.data.toList && plainS s then endE (readB [] (s.data.toList.drop 1)) else (⟨#[]⟩, 3)
theorem size_list (t : ByteArray) : t.data.toList.length = t.size := Array.length_toList
theorem quote_size (t : ByteArray) : (quoteS t).size ≤ 2 * t.size + 2 := by
  have := escB_len t.data.toList
  unfold quoteS quoteL
  simp only [ByteArray.size, List.size_toArray, List.length_cons, List.length_append, List.length_nil]
  have e : t.data.toList.length = t.data.size := by simp
  omega
def okOf : Lib.NumEnd Int → Option Int
  | .ok n => some n
  | _ => none
def numOf (s : ByteArray) : Option Int := (okOf (Lib.atoiAll s.data.toList)).bind fun n => if numB n && decide (itoaS n = s) then some n else none
def txtOf (s : ByteArray) : Option ByteArray := if (unquoteE s).2 = 0 ∧ textB (unquoteE s).1 = true then some (unquoteE s).1 else none
def parseE (s : ByteArray) : Val × Int :=
  if s = trueS then (⟨1, 1, ⟨#[]⟩⟩, 0) else if s = falseS then (⟨1, 0, ⟨#[]⟩⟩, 0) else
  match numOf s with
  | some n => (⟨2, n, ⟨#[]⟩⟩, 0)
  | none => match txtOf s with
    | some t => (⟨3, 0, t⟩, 0)
    | none => (⟨0, 0, ⟨#[]⟩⟩, 3)
structure Mv where
  src : Nat
  dst : Nat
  sym : Nat
deriving DecidableEq
structure Sp where
  states : List St
  moves : List Mv
  full : Bool
deriving DecidableEq
def noSp : Sp := ⟨[], [], false⟩
def idxS (l : List St) (s : St) : Option Nat := l.findIdx? (fun x => decide (x = s))
def exT (n : DNet) (most i : Nat) (s : St) (t : Nat) (p : Sp) : Option Sp :=
  if (fireD n s (t : Int)).2 ≠ 0 then some ⟨p.states, p.moves, p.full && decide ((fireD n s (t : Int)).2 ≠ 5)⟩
  else match idxS p.states (fireD n s (t : Int)).1 with
    | some k => if p.moves.length < 20000 then some ⟨p.states, p.moves ++ [⟨i, k, t⟩], p.full⟩ else none
    | none => if p.states.length < most then (if p.moves.length < 20000 then some ⟨p.states ++ [(fireD n s (t : Int)).1], p.moves ++ [⟨i, p.states.length, t⟩], p.full⟩ else none)
      else some ⟨p.states, p.moves, false⟩
def exRow (n : DNet) (most i : Nat) (s : St) : Nat → Nat → Sp → Option Sp
  | 0, _, p => some p
  | f + 1, t, p => (exT n most i s t p).bind fun q => exRow n most i s f (t + 1) q
def exAll (n : DNet) (most : Nat) : Nat → Nat → Sp → Option Sp
  | 0, _, p => some p
  | f + 1, i, p => match p.states[i]? with
    | none => some p
    | some s => (exRow n most i s n.net.trans.length 0 p).bind fun q => exAll n most f (i + 1) q
def exFrom (n : DNet) (s : St) (most : Nat) : Option Sp := exAll n most (most + 1) 0 ⟨[s], [], true⟩
def dexplE (n : DNet) (s : St) (most : Int) : Sp × Int :=
  if vstateB n s = false then (noSp, 1)
  else if most < 1 ∨ 2000 < most then (noSp, 2)
  else match exFrom n s most.toNat with
    | none => (noSp, 13)
    | some p => (p, 0)
def dwholeE (n : DNet) (most : Int) : Sp × Int :=
  if dvalidB n = false then (noSp, 1)
  else if (dexplE n ⟨oneB n.net n.net.source, n.init⟩ most).2 = 0 ∧ (dexplE n ⟨oneB n.net n.net.source, n.init⟩ most).1.full = false then (noSp, 13)
  else dexplE n ⟨oneB n.net n.net.source, n.init⟩ most
def canStep (mv : List Mv) (c : List Bool) : List Bool := (List.range c.length).map fun i => (c.getD i false) || mv.any fun m => decide (m.src = i) && c.getD m.dst false
def canIter (mv : List Mv) : Nat → List Bool → List Bool
  | 0, c => c
  | k + 1, c => canIter mv k (canStep mv c)
def goodL (n : DNet) (p : Sp) : List Bool := canIter p.moves p.states.length (p.states.map fun s => finalM n s.marks)
def badS (n : DNet) (s : St) (good : Bool) : Bool := !good || (decide (0 < s.marks.getD n.net.sink.toNat 0) && !finalM n s.marks)
def badAt (n : DNet) (p : Sp) (i : Nat) : Bool := badS n (p.states.getD i noSt) ((goodL n p).getD i false)
def byM (mv : List Mv) (k : Nat) : Option Mv := mv.find? fun m => decide (m.dst = k) && decide (m.src < m.dst)
def backD (mv : List Mv) : Nat → Nat → List Nat
  | 0, _ => []
  | f + 1, k => if k = 0 then [] else match byM mv k with
    | none => [0]
    | some m => m.sym :: backD mv f m.src
def pathD (mv : List Mv) (k : Nat) : List Int := (backD mv k k).reverse.map fun (t : Nat) => (t : Int)
def firstBad (n : DNet) (p : Sp) : Option Nat := (List.range p.states.length).find? (badAt n p)
def dsoundE (n : DNet) (most : Int) : Bool × List Int × Int :=
  if (dwholeE n most).2 ≠ 0 then (false, [], (dwholeE n most).2)
  else match firstBad n (dwholeE n most).1 with
    | none => (true, [], 0)
    | some i => (false, pathD (dwholeE n most).1.moves i, 0)
def deadL (n : DNet) (mv : List Mv) : List Int := ((List.range n.net.trans.length).filter fun t => !(mv.any fun m => decide (m.sym = t))).map fun (t : Nat) => (t : Int)
def ddeadE (n : DNet) (most : Int) : List Int × Int :=
  if (dwholeE n most).2 ≠ 0 then ([], (dwholeE n most).2) else (deadL n (dwholeE n most).1.moves, 0)
def keyM (m : List Int) : List UInt8 := m.flatMap fun k => Lib.itoa k ++ [32]
def keyV (vs : List Val) : List UInt8 := vs.flatMap fun v => (textE v).1.data.toList ++ [32]
def keyS (s : St) : List UInt8 := keyM s.marks ++ keyV s.vals
theorem itoa_noblank (k : Int) : ∀ b ∈ Lib.itoa k, b ≠ 32 := by
  intro b hb e
  subst e
  unfold Lib.itoa at hb
  split at hb
  · rcases List.mem_cons.1 hb with h | h
    · cases h
    · have := decDigits_digit _ _ h
      simp at this
  · have := decDigits_digit _ _ hb
    simp at this
theorem cut_blank {a b r t : List UInt8} (ha : ∀ c ∈ a, c ≠ 32) (hb : ∀ c ∈ b, c ≠ 32) (h : a ++ 32 :: r = b ++ 32 :: t) : a = b ∧ r = t := by
  induction a generalizing b with
  | nil =>
    cases b with
    | nil => exact ⟨rfl, by simpa using h⟩
    | cons c b =>
      simp only [List.nil_append, List.cons_append, List.cons.injEq] at h
      exact absurd h.1.symm (hb c (by simp))
  | cons c a ih =>
    cases b with
    | nil =>
      simp only [List.nil_append, List.cons_append, List.cons.injEq] at h
      exact absurd h.1 (ha c (by simp))
    | cons d b =>
      simp only [List.cons_append, List.cons.injEq] at h
      obtain ⟨h1, h2⟩ := ih (fun x hx => ha x (by simp [hx])) (fun x hx => hb x (by simp [hx])) h.2
      exact ⟨by rw [h.1, h1], h2⟩
theorem keyM_cons (k : Int) (m : List Int) (r : List UInt8) : keyM (k :: m) ++ r = Lib.itoa k ++ 32 :: (keyM m ++ r) := by simp [keyM]
theorem keyM_inj : ∀ {m m' : List Int} {r r' : List UInt8}, m.length = m'.length → keyM m ++ r = keyM m' ++ r' → m = m' ∧ r = r' := by
  intro m
  induction m with
  | nil =>
    intro m' r r' hl h
    cases m' with
    | nil => exact ⟨rfl, by simpa [keyM] using h⟩
    | cons => simp at hl
  | cons k m ih =>
    intro m' r r' hl h
    cases m' with
    | nil => simp at hl
    | cons k' m' =>
      rw [keyM_cons, keyM_cons] at h
      obtain ⟨h1, h2⟩ := cut_blank (itoa_noblank k) (itoa_noblank k') h
      obtain ⟨h3, h4⟩ := ih (by simpa using hl) h2
      exact ⟨by rw [itoa_inj h1, h3], h4⟩
theorem empty_noS {s : ByteArray} (h : noS s = true) : s = emptyS := by
  unfold noS at h
  have : s.toList = [] := by simpa using h
  rw [Lib.toList_data] at this
  cases s
  unfold emptyS
  congr 1
  exact Array.toList_inj.1 this
inductive Kinds : Val → Prop where
  | no : Kinds ⟨1, 0, emptyS⟩
  | yes : Kinds ⟨1, 1, emptyS⟩
  | num (n : Int) : Kinds ⟨2, n, emptyS⟩
  | txt (s : ByteArray) : Kinds ⟨3, 0, s⟩
theorem kinds_of {v : Val} (h : validV v = true) : Kinds v := by
  obtain ⟨k, n, s⟩ := v
  by_cases k1 : k = 1
  · subst k1
    obtain ⟨hn, hs⟩ := valid1 h rfl
    dsimp only at hn hs
    have := empty_noS hs
    subst this
    rcases hn with rfl | rfl
    · exact .no
    · exact .yes
  by_cases k2 : k = 2
  · subst k2
    obtain ⟨hn, hs⟩ := valid2 h rfl
    dsimp only at hn hs
    have := empty_noS hs
    subst this
    exact .num n
  · obtain ⟨k3, n0, ht⟩ := valid3 h k1 k2
    dsimp only at k3 n0 ht
    subst k3 n0
    exact .txt s
def heads (l : List UInt8) : Nat := match l with
  | c :: _ => if c.toNat = 34 then 2 else if c.toNat ≤ 57 then 1 else c.toNat
  | [] => 0
theorem heads_num (n : Int) (r : List UInt8) : heads (Lib.itoa n ++ r) = 1 := by
  unfold Lib.itoa
  split
  · rfl
  · obtain ⟨d, q, hd, h1, h2⟩ := decDigits_head n.toNat
    rw [hd]
    show (if d.toNat = 34 then 2 else if d.toNat ≤ 57 then 1 else d.toNat) = 1
    rw [if_neg (by omega), if_pos h2]
theorem text_cut {v v' : Val} (h : validV v = true) (h' : validV v' = true) {r t : List UInt8} (e : (textV v).data.toList ++ 32 :: r = (textV v').data.toList ++ 32 :: t) : v = v' ∧ r = t := by
  have hh : heads ((textV v).data.toList ++ 32 :: r) = heads ((textV v').data.toList ++ 32 :: t) := by rw [e]
  have hN : ∀ n : Int, (textV ⟨2, n, emptyS⟩).data.toList = Lib.itoa n := fun n => rfl
  have hQ : ∀ s : ByteArray, (textV ⟨3, 0, s⟩).data.toList = quoteL s.data.toList := fun n => rfl
  have h0 : (textV ⟨1, 0, emptyS⟩).data.toList = falseS.data.toList := rfl
  have h1 : (textV ⟨1, 1, emptyS⟩).data.toList = trueS.data.toList := rfl
  have b0 : ∀ c ∈ falseS.data.toList, c ≠ 32 := by decide
  have b1 : ∀ c ∈ trueS.data.toList, c ≠ 32 := by decide
  have g0 : ∀ q, heads (falseS.data.toList ++ q) = 102 := fun q => rfl
  have g1 : ∀ q, heads (trueS.data.toList ++ q) = 116 := fun q => rfl
  have g2 : ∀ s q, heads (quoteL s ++ q) = 2 := fun s q => rfl
  cases kinds_of h with
  | no =>
    cases kinds_of h' with
    | no => exact ⟨rfl, (cut_blank b0 b0 e).2⟩
    | yes => rw [h0, h1, g0, g1] at hh; cases hh
    | num n => rw [h0, hN, g0, heads_num] at hh; cases hh
    | txt s => rw [h0, hQ, g0, g2] at hh; cases hh
  | yes =>
    cases kinds_of h' with
    | no => rw [h0, h1, g0, g1] at hh; cases hh
    | yes => exact ⟨rfl, (cut_blank b1 b1 e).2⟩
    | num n => rw [h1, hN, g1, heads_num] at hh; cases hh
    | txt s => rw [h1, hQ, g1, g2] at hh; cases hh
  | num n =>
    cases kinds_of h' with
    | no => rw [h0, hN, g0, heads_num] at hh; cases hh
    | yes => rw [h1, hN, g1, heads_num] at hh; cases hh
    | num n' =>
      rw [hN, hN] at e
      obtain ⟨e1, e2⟩ := cut_blank (itoa_noblank n) (itoa_noblank n') e
      rw [itoa_inj e1]
      exact ⟨rfl, e2⟩
    | txt s => rw [hN, hQ, heads_num, g2] at hh; cases hh
  | txt s =>
    cases kinds_of h' with
    | no => rw [h0, hQ, g0, g2] at hh; cases hh
    | yes => rw [h1, hQ, g1, g2] at hh; cases hh
    | num n => rw [hN, hQ, heads_num, g2] at hh; cases hh
    | txt s' =>
      rw [hQ, hQ] at e
      unfold quoteL at e
      simp only [List.cons_append, List.append_assoc, List.nil_append, List.cons.injEq, true_and] at e
      have q1 := read_quote s.data.toList (32 :: r) []
      have q2 := read_quote s'.data.toList (32 :: t) []
      rw [e, q2] at q1
      simp only [Prod.mk.injEq, List.nil_append, List.cons.injEq, true_and] at q1
      obtain ⟨q3, q4⟩ := q1
      have : s = s' := by
        cases s; cases s'
        congr 1
        exact Array.toList_inj.1 q3.symm
      subst this
      exact ⟨rfl, q4.symm⟩
theorem keyV_cons {v : Val} (h : validV v = true) (vs : List Val) : keyV (v :: vs) = (textV v).data.toList ++ 32 :: keyV vs := by
  have : textE v = (textV v, 0) := by unfold textE; rw [h]; rfl
  unfold keyV
  rw [List.flatMap_cons, this, List.append_assoc]
  rfl
theorem keyV_inj : ∀ {m m' : List Val}, m.length = m'.length → (∀ v ∈ m, validV v = true) → (∀ v ∈ m', validV v = true) → keyV m = keyV m' → m = m' := by
  intro m
  induction m with
  | nil =>
    intro m' hl _ _ h
    cases m' with
    | nil => rfl
    | cons => simp at hl
  | cons k m ih =>
    intro m' hl a a' h
    cases m' with
    | nil => simp at hl
    | cons k' m' =>
      rw [keyV_cons (a k (by simp)), keyV_cons (a' k' (by simp))] at h
      obtain ⟨h1, h2⟩ := text_cut (a k (by simp)) (a' k' (by simp)) h
      have h3 := ih (by simpa using hl) (fun v hv => a v (by simp [hv])) (fun v hv => a' v (by simp [hv])) h2
      rw [h1, h3]
theorem keyS_inj {s s' : St} (hm : s.marks.length = s'.marks.length) (hv : s.vals.length = s'.vals.length) (a : ∀ v ∈ s.vals, validV v = true) (a' : ∀ v ∈ s'.vals, validV v = true) (h : keyS s = keyS s') : s = s' := by
  obtain ⟨h1, h2⟩ := keyM_inj hm h
  have h3 := keyV_inj hv a a' h2
  cases s; cases s'
  simp only at h1 h3
  rw [h1, h3]
theorem typed_given {vs : List Var} {x : Ex} {k : Int} (h : typedB vs x k = true) : validX x = true ∧ varsB vs = true ∧ (typX vs x).2 = 0 ∧ (typX vs x).1 = k := by
  unfold typedB givenE at h
  rw [Bool.and_eq_true, decide_eq_true_eq, decide_eq_true_eq] at h
  by_cases hc : (validX x && varsB vs) = true
  · rw [if_pos hc] at h
    rw [Bool.and_eq_true] at hc
    exact ⟨hc.1, hc.2, h.1, h.2⟩
  · rw [if_neg hc] at h
    exact absurd h.1 (by decide)
theorem asg_parts {vs : List Var} {vals : List Val} (h : asgB vs vals = true) : varsB vs = true ∧ (∀ v ∈ vals, validV v = true) ∧ vals.length = vs.length ∧ PlacedTo vs vals vs.length := by
  unfold asgB inAllE at h
  by_cases ho : okB vs vals = true
  · rw [if_pos ho] at h
    obtain ⟨h1, h2⟩ := ok_vars ho
    obtain ⟨h3, h4⟩ := assigned_at (l := vs) (vs := vals) (by simpa using h)
    exact ⟨h1, h2, h3, h4⟩
  · rw [if_neg ho] at h; simp at h
theorem asg_mk {vs : List Var} {vals : List Val} (h1 : varsB vs = true) (h2 : ∀ v ∈ vals, validV v = true) (h3 : vals.length = vs.length) (h4 : PlacedTo vs vals vs.length) : asgB vs vals = true := by
  have ho : okB vs vals = true := by unfold okB; rw [h1, Bool.true_and, List.all_eq_true]; exact h2
  unfold asgB inAllE
  rw [if_pos ho, assigned_yes h3 h4]; rfl
theorem asg_typed {vs : List Var} {vals : List Val} (h : asgB vs vals = true) : Asg vs vals := by
  unfold asgB at h
  rw [Bool.and_eq_true, decide_eq_true_eq] at h
  exact asg_of h
theorem wrsV_ok {vs : List Var} {vals : List Val} (hA : Asg vs vals) : ∀ (l : List Wr) (a : Int) (cur out : List Val), -1 ≤ a → wrsB vs a l = true → cur.length = vs.length → (∀ v ∈ cur, validV v = true) → PlacedTo vs cur vs.length →
    wrsV vs vals l cur = some out → out.length = vs.length ∧ (∀ v ∈ out, validV v = true) ∧ PlacedTo vs out vs.length := by
  intro l
  induction l with
  | nil =>
    intro a cur out _ _ h1 h2 h3 h
    injection h with h
    subst h
    exact ⟨h1, h2, h3⟩
  | cons y l ih =>
    intro a cur out ha hw h1 h2 h3 h
    rw [wrsB] at hw
    simp only [Bool.and_eq_true, decide_eq_true_eq] at hw
    obtain ⟨⟨⟨w1, w2⟩, w3⟩, w4⟩ := hw
    obtain ⟨g1, g2, g3, _⟩ := typed_given w3
    rw [wrsV] at h
    cases he : evX vs vals y.x with
    | none => rw [he] at h; cases h
    | some b =>
      rw [he] at h
      dsimp only at h
      split at h
      · rename_i hp
        obtain ⟨k, hk⟩ := Int.eq_ofNat_of_zero_le (show 0 ≤ y.var by omega)
        have hkl : k < vs.length := by omega
        have hb := (ev_typed hA y.x (valid_ok g1) g3 b he).2
        have hpl : placeW vs y.var b = placeV vs[k] b := by
          unfold placeW; rw [hk, Int.toNat_natCast, List.getElem?_eq_getElem hkl]
        rw [hpl] at hp
        refine ih y.var _ out (by omega) w4 (by simpa using h1) ?_ ?_ h
        · intro v hv
          rcases List.mem_or_eq_of_mem_set hv with h' | h'
          · exact h2 v h'
          · rw [h']; exact hb
        · intro j x v hj hx hv
          rw [hk, Int.toNat_natCast, List.getElem?_set] at hv
          split at hv
          · rename_i hkj
            subst hkj
            rw [if_pos (by omega)] at hv
            injection hv with hv
            rw [List.getElem?_eq_getElem hkl] at hx
            injection hx with hx
            rw [← hx, ← hv]; exact hp
          · exact h3 j x v hj hx hv
      · cases h
theorem writes_at {n : DNet} (h : n.writes.all (wrsB n.vars (-1)) = true) (t : Nat) : wrsB n.vars (-1) ((n.writes[t]?).getD []) = true := by
  cases hw : n.writes[t]? with
  | none => rfl
  | some l =>
    rw [List.all_eq_true] at h
    exact h l (List.mem_of_getElem? hw)
theorem state_parts {n : DNet} {s : St} (h : stateB n s = true) : validB n.net = true ∧ markingB n.net.places s.marks = true ∧ asgB n.vars s.vals = true := by
  unfold stateB at h
  simp only [Bool.and_eq_true] at h
  exact ⟨h.1.1, h.1.2, h.2⟩
theorem state_mk {n : DNet} {s : St} (h1 : validB n.net = true) (h2 : markingB n.net.places s.marks = true) (h3 : asgB n.vars s.vals = true) : stateB n s = true := by
  unfold stateB; rw [h1, h2, h3]; rfl
theorem fire_parts {n : DNet} {s : St} {t : Int} (h : (fireD n s t).2 = 0) : 0 ≤ t ∧ t < n.net.trans.length ∧ (fireB n.net s.marks t).2 = 0 ∧ guardB n.vars s.vals ((n.guards[t.toNat]?).getD (.mk 0 noV emptyS [])) = true ∧
    ∃ vs, wrsV n.vars s.vals ((n.writes[t.toNat]?).getD []) s.vals = some vs ∧ fireD n s t = (⟨(fireB n.net s.marks t).1, vs⟩, 0) := by
  unfold fireD at h ⊢
  by_cases h1 : t < 0 ∨ (n.net.trans.length : Int) ≤ t
  · rw [if_pos h1] at h; cases h
  rw [if_neg h1] at h ⊢
  by_cases h2 : (fireB n.net s.marks t).2 = 12
  · rw [if_pos h2] at h; cases h
  rw [if_neg h2] at h ⊢
  by_cases h3 : guardB n.vars s.vals ((n.guards[t.toNat]?).getD (.mk 0 noV emptyS [])) = false
  · rw [if_pos h3] at h; cases h
  rw [if_neg h3] at h ⊢
  cases hw : wrsV n.vars s.vals ((n.writes[t.toNat]?).getD []) s.vals with
  | none => rw [hw] at h; cases h
  | some vs =>
    rw [hw] at h
    dsimp only at h ⊢
    by_cases h4 : (fireB n.net s.marks t).2 ≠ 0
    · rw [if_pos h4] at h; exact absurd h h4
    rw [if_neg h4]
    exact ⟨by omega, by omega, by omega, by simpa using h3, vs, rfl, rfl⟩
theorem fire_state {n : DNet} {s : St} {t : Int} (hv : dvalidB n = true) (hs : stateB n s = true) (h : (fireD n s t).2 = 0) : stateB n (fireD n s t).1 = true := by
  obtain ⟨s1, s2, s3⟩ := state_parts hs
  obtain ⟨_, _, f3, _, vs, hw, e⟩ := fire_parts h
  rw [e]
  have hwr : n.writes.all (wrsB n.vars (-1)) = true := by
    unfold dvalidB at hv
    simp only [Bool.and_eq_true] at hv
    exact hv.2
  obtain ⟨a1, a2, a3, a4⟩ := asg_parts s3
  obtain ⟨o1, o2, o3⟩ := wrsV_ok (asg_typed s3) _ (-1) s.vals vs (by omega) (writes_at hwr t.toNat) a3 a2 a4 hw
  exact state_mk s1 (fire_mark s1 s2 f3) (asg_mk a1 o2 o1 o3)
theorem key_state {n : DNet} {s s' : St} (h : stateB n s = true) (h' : stateB n s' = true) (hk : keyS s = keyS s') : s = s' := by
  obtain ⟨_, m, a⟩ := state_parts h
  obtain ⟨_, m', a'⟩ := state_parts h'
  obtain ⟨_, a2, a3, _⟩ := asg_parts a
  obtain ⟨_, b2, b3, _⟩ := asg_parts a'
  refine keyS_inj ?_ (by omega) a2 b2 hk
  have e := (markOk (n := n.net) m).1
  have e' := (markOk (n := n.net) m').1
  omega
theorem drewN_add' (w : World) (a b : Nat) : (w.drewN a).drewN b = w.drewN (a + b) := by simp [World.drewN, Nat.add_assoc]
theorem eq_of_gets {α : Type} {xs ys : List α} (hl : xs.length = ys.length) (h : ∀ j, j < xs.length → xs[j]? = ys[j]?) : xs = ys := by
  apply List.ext_getElem? 
  intro j
  rcases Nat.lt_or_ge j xs.length with hj | hj
  · exact h j hj
  · rw [List.getElem?_eq_none hj, List.getElem?_eq_none (by omega)]
def sameSt (a b : St) : Bool := (a.marks == b.marks) && decide (a.vals = b.vals)
end Go.Proofs.YtlmenhjlgmejkaaGreatDoor
