/- Texts of this seat, merged. -/
import Derived.BigQuiet
import Derived.Test.YtijmnenojbfdnaaGreatDoorEq01
import Derived.Test.YtijmnenojbfdnaaGreatDoorEq02
import Derived.Test.YtijmnenojbfdnaaGreatDoorEq03
import Derived.Test.YtijmnenojbfdnaaGreatDoorEq04
import Derived.Test.YtijmnenojbfdnaaGreatDoorEq05
import Derived.Test.YtijmnenojbfdnaaGreatDoorEq06
import Derived.Test.YtijmnenojbfdnaaGreatDoorEq07
import Derived.Test.YtijmnenojbfdnaaGreatDoorEq08
import Derived.Test.YtijmnenojbfdnaaGreatDoorEq09
import Derived.Test.YtijmnenojbfdnaaGreatDoorEq10
import Derived.Test.YtijmnenojbfdnaaGreatDoorEq11
import Derived.Test.YtijmnenojbfdnaaGreatDoorEq12
import Derived.Test.YtijmnenojbfdnaaGreatDoorEq13
import Derived.Test.YtijmnenojbfdnaaGreatDoorEq14
import Derived.Test.YtijmnenojbfdnaaGreatDoorEq15
import Derived.Test.YtijmnenojbfdnaaGreatDoorEq22
import Derived.Test.YtijmnenojbfdnaaGreatDoorEq23
set_option linter.unusedSimpArgs false
set_option linter.unusedVariables false
namespace Go.Proofs.YtijmnenojbfdnaaGreatDoor
open Go.RowKit
theorem run_make_cap {P : Program} (t e : TypeId) (z : Value) (bytes : Nat) (ht : P.underlying t = some (.slice e)) (hi : (P.info? e).map (fun i => (i.zero, i.size, i.bytes)) = some (some z, 1, bytes)) (n : Nat) (hn : n ≤ 10000000) (hb : bytes ≤ 4096) (hzc : z.cells = #[z]) (w : World) :
    (Instr.makeSlice t (.int .i64 0) (.int .i64 (n : Int))).run P w = .ok (.slice (some ⟨w.heap.size, 0, none⟩) 0 n) (w.alloc (.cells (madeCells #[z] n) e)) := by
  obtain ⟨i, hi, hz, hs, hby⟩ := info_parts hi
  have hb' : (i.bytes : Int) * (n : Int) ≤ 281474976710656 := by
    have h1 : i.bytes * n ≤ 4096 * 10000000 := Nat.mul_le_mul (by omega) hn
    have h : ((i.bytes * n : Nat) : Int) ≤ 281474976710656 := by omega
    rwa [Int.natCast_mul] at h
  have hr := run_make (P := P) w t e i z ht hi hz .i64 .i64 0 n (by omega) (by omega) hb' (by omega)
  simp only [Int.toNat_natCast] at hr
  rw [hs, hzc, Nat.mul_one] at hr
  exact hr
theorem own_room (w : World) (t n : Nat) (hn : n ≤ maxLen) : (w.alloc (.cells (madeCells #[.int .i64 0] n) t)).ownsRow w.heap.size t 1 (.slice (some ⟨w.heap.size, 0, none⟩) 0 n) 0 [] :=
  ⟨rfl, .inr ⟨w.heap.size, n, madeCells #[.int .i64 0] n, rfl, Nat.le_refl _, heap_alloc_new w _, Nat.zero_le _, hn, by simp [madeCells], rfl⟩⟩
set_option maxHeartbeats 400000 in
theorem typed11_any (z k : Int) (g : Nat) (w : World) (hB : Blk w g 3 #[.int .i64 k]) :
    Calls Tryz.prog 128 #[.int .i64 z, .pointer (some ⟨g, 0, none⟩)] w fun e w' => e = .returned (.bool (!(z == k))) ∧ Below w.heap.size w w' := by
  have c0 := hB.c1
  generalize hq : (z == k) = q
  have b1 : (z != k) = !q := by rw [bne, hq]
  go_enter Tryz.func128, Tryz.ntmps128
  go_wp2_with fail
  go_ret
  exact ⟨rfl, Below.refl _ _⟩
theorem any_not_allI (l : List Int) (k : Int) : (l.any fun z => !(z == k)) = !(l.all (· == k)) := by
  induction l with
  | nil => rfl
  | cons a m ih => rw [List.any_cons, List.all_cons, ih]; simp
set_option maxHeartbeats 400000 in
theorem all_any (k : Int) (g : Nat) (kv : Value) (ks : List Int) (w : World) (hB : Blk w g 148 #[kv]) (hk : SlI (Lt w.heap.size) w kv ks) :
    Calls Tryz.prog 126 #[.int .i64 k, .pointer (some ⟨g, 0, none⟩)] w fun e w' => e = .returned (.bool (ks.all (· == k))) ∧ Below w.heap.size w w' := by
  have eg : ∀ args w, (callFunc 128 args).run Tryz.prog w = .ok (.enter 128 args) w := enters_of Tryz.func128 (by kernel_rfl) rfl
  have hb := bone w (.cells #[.int .i64 k] 3)
  have hK := Blk.new w 3 #[.int .i64 k]
  have hB1 := hB.alloc (.cells #[.int .i64 k] 3)
  have c0 := hB1.c1
  have HC := Lib.hid (containsFuncI 128 eg #[.pointer (some ⟨w.heap.size, 0, none⟩)] kv ks (fun z => !(z == k)) _ (hk.now hb) (fun z v w1 _ hb1 _ hv => by
    obtain ⟨rfl, _⟩ := hv
    exact typed11_any z k w.heap.size w1 (hK.now hb1)))
  have HN := Lib.hid (any_not_allI ks k)
  clear hB hB1 hK hk eg
  go_enter Tryz.func126, Tryz.ntmps126
  go_wp2_with fail
  refine HC.out.mono ?_
  rintro e w1 ⟨rfl, hb1⟩
  rw [HN.out]
  generalize hq : ks.all (fun x => x == k) = q
  clear c0
  go_wp2_with fail
  go_ret
  exact ⟨ret_bool (by rw [hq] <;> simp), bthen hb hb1⟩
def kindsOf (vs : List Var) (l : List Ex) : List Int := l.map fun x => (typX vs x).1
theorem kinds_snoc {vs : List Var} {l : List Ex} {k : Nat} {x : Ex} (hx : l[k]? = some x) : kindsOf vs (l.take (k + 1)) = kindsOf vs (l.take k) ++ [(typX vs x).1] := by
  unfold kindsOf
  rw [List.take_add_one, hx, List.map_append]; rfl
theorem typL_stop {vs : List Var} {l : List Ex} {k : Nat} {x : Ex} (hx : l[k]? = some x) (h : (typX vs x).2 ≠ 0) (hp : ∀ y ∈ l.take k, (typX vs y).2 = 0) : (typL vs l).2 = (typX vs x).2 := by
  induction l generalizing k with
  | nil => simp at hx
  | cons a l ih =>
    rw [typL_cons]
    cases k with
    | zero =>
      injection hx with hx
      rw [hx, if_pos h]
    | succ k =>
      have h0 : (typX vs a).2 = 0 := hp a (by simp)
      have h1 := ih (k := k) (by simpa using hx) (fun y hy => hp y (by simp [hy]))
      rw [if_neg (by simp [h0])]
      rw [if_pos (by rw [h1]; exact h)]
      exact h1
theorem typL_all {vs : List Var} {l : List Ex} (hp : ∀ y ∈ l, (typX vs y).2 = 0) : typL vs l = (kindsOf vs l, 0) := by
  induction l with
  | nil => exact typL_nil vs
  | cons a l ih =>
    rw [typL_cons, ih (fun y hy => hp y (by simp [hy])), if_neg (by simp [hp a (by simp)]), if_neg (by simp)]
    rfl
theorem typX_stop {vs : List Var} {x y : Ex} {k : Nat} (hx : x.l[k]? = some y) (h : (typX vs y).2 ≠ 0) (hp : ∀ y ∈ x.l.take k, (typX vs y).2 = 0) : typX vs x = (0, (typX vs y).2) := by
  rw [typX_eq, typL_stop hx h hp, if_pos h]
theorem typX_all {vs : List Var} {x : Ex} (hp : ∀ y ∈ x.l, (typX vs y).2 = 0) : typX vs x = typO vs x (kindsOf vs x.l) := by
  rw [typX_eq, typL_all hp, if_neg (by simp)]
def RetT (vs : List Var) (x : Ex) (w : World) (e : Ending) (w' : World) : Prop :=
  e = .returned (.tuple #[.int .i64 (typX vs x).1, .int .i64 (typX vs x).2]) ∧ Fit (typX vs x).1 ∧ Below w.heap.size w w'
theorem ret_T {vs : List Var} {x : Ex} {a b : Int} {w w' : World} (h : typX vs x = (a, b)) (hf : Fit a) (hb : Below w.heap.size w w') : RetT vs x w (.returned (.tuple #[.int .i64 a, .int .i64 b])) w' := by
  unfold RetT; rw [h]; exact ⟨rfl, hf, hb⟩
theorem typed_step {vs : List Var} {l : List Ex} {k : Nat} {x : Ex} (hx : l[k]? = some x) (h : (typX vs x).2 = 0) (hp : ∀ y ∈ l.take k, (typX vs y).2 = 0) : ∀ y ∈ l.take (k + 1), (typX vs y).2 = 0 := by
  intro y hy
  rw [List.take_add_one, hx, List.mem_append] at hy
  rcases hy with hy | hy
  · exact hp y hy
  · simp at hy; subst hy; exact h
theorem kinds_fit {vs : List Var} {l : List Ex} {k : Nat} {x : Ex} (hx : l[k]? = some x) (h : Fit (typX vs x).1) (hp : ∀ z ∈ kindsOf vs (l.take k), Fit z) : ∀ z ∈ kindsOf vs (l.take (k + 1)), Fit z := by
  intro z hz
  rw [kinds_snoc hx, List.mem_append] at hz
  rcases hz with hz | hz
  · exact hp z hz
  · simp at hz; subst hz; exact h
theorem own_ne {w : World} {base e size n g t : Nat} {v : Value} {xs : List Value} {cs : Array Value} (h : w.ownsRow base e size v n xs) (hB : Blk w g t cs) (ht : t ≠ e) : v.ownBlock ≠ some g := by
  rcases h.2 with ⟨rfl, _⟩ | ⟨g', cap, cur, rfl, _, hg, _⟩
  · simp [Value.ownBlock]
  · intro he
    simp only [Value.ownBlock, Option.some.injEq] at he
    subst he
    unfold Blk at hB
    rw [hB] at hg
    simp only [Option.some.injEq, Obj.cells.injEq] at hg
    exact ht hg.2.1
theorem kinds_len (vs : List Var) (l : List Ex) : (kindsOf vs l).length = l.length := by unfold kindsOf; simp
set_option maxHeartbeats 8000000 in
set_option maxRecDepth 100000 in
theorem typed_any : ∀ (n : Nat) (vs : List Var) (x : Ex) (uv u : Value) (w : World), SlX (Lt w.heap.size) w uv vs → IsEx n (Lt w.heap.size) w u x → okX x = true →
    Calls Tryz.prog 79 #[uv, u] w (RetT vs x w) := by
  intro n
  induction n using Nat.strongRecOn with
  | _ n ih =>
    intro vs x uv u w hvs h hok
    obtain ⟨Av, cv, rfl, v1, v2, hvs⟩ := hvs.open_
    obtain ⟨lv, rfl, h1, h2, h3, h4⟩ := h
    obtain ⟨A, c, rfl, l1, l2, h4⟩ := h4.open_
    have hk := okX_eq x
    rw [hok] at hk
    replace hk := hk.symm
    simp only [Bool.and_eq_true, decide_eq_true_eq] at hk
    obtain ⟨⟨hsh, hlen⟩, hokl⟩ := hk
    have HSH := Lib.hid (shape_len hsh)
    have HOK := Lib.hid (okL_mem hokl)
    clear hsh hokl hok
    have hmk := run_make_cap (P := Tryz.prog) 148 3 (.int .i64 0) 8 Tryz.underlying148 intInfo x.l.length (by omega) (by omega) rfl
    have hb0 := bone w (.cells #[.int .i64 x.op, .int .i64 x.v.kind, .int .i64 x.v.n, .string x.v.s, .string x.s, .slice A x.l.length c] 28)
    have hB0 := Blk.new w 28 #[.int .i64 x.op, .int .i64 x.v.kind, .int .i64 x.v.n, .string x.v.s, .string x.s, .slice A x.l.length c]
    have hl0 := SlE.now h4 hb0
    have hv0 := hvs.now hb0
    clear h4 hvs
    go_enter Tryz.func79, Tryz.ntmps79
    go_upto_region 1 with fail
    generalize hw1 : w.alloc (.cells #[.int .i64 x.op, .int .i64 x.v.kind, .int .i64 x.v.n, .string x.v.s, .string x.s, .slice A x.l.length c] 28) = w1 at *
    obtain ⟨q0, q1, q2, q3, q4, q5⟩ := hB0.c6
    clear hw1
    go_upto_region 2 with fail
    have hrow2 := (own_room w1 3 x.l.length (by unfold maxLen; omega)).alloc (.cells #[.slice (some ⟨w1.heap.size, 0, none⟩) 0 x.l.length] 148)
    have hK2 : Blk ((w1.alloc (.cells (madeCells #[.int .i64 0] x.l.length) 3)).alloc (.cells #[.slice (some ⟨w1.heap.size, 0, none⟩) 0 x.l.length] 148)) (w1.heap.size + 1) 148 #[.slice (some ⟨w1.heap.size, 0, none⟩) 0 x.l.length] := Blk.new_at (by simp)
    have hb2 := bbox (bone w1 (.cells (madeCells #[.int .i64 0] x.l.length) 3)) (.cells #[.slice (some ⟨w1.heap.size, 0, none⟩) 0 x.l.length] 148)
    generalize hw2 : (w1.alloc (.cells (madeCells #[.int .i64 0] x.l.length) 3)).alloc (.cells #[.slice (some ⟨w1.heap.size, 0, none⟩) 0 x.l.length] 148) = w2 at *
    clear hw2 hmk q0 q1 q2 q3 q4 q5
    have hB2 := hB0.now hb2
    obtain ⟨q0, q1, q2, q3, q4, q5⟩ := hB2.c6
    have eg : ∀ args w, (callFunc 126 args).run Tryz.prog w = .ok (.enter 126 args) w := enters_of Tryz.func126 (by kernel_rfl) rfl
    go_wp2_with fail
    go_loopw [22] (fun i wr => ∃ (k : Nat) (kv : Value), k ≤ x.l.length ∧ i = .int .i64 k ∧ Blk wr (w1.heap.size + 1) 148 #[kv] ∧ wr.ownsRow w1.heap.size 3 1 kv k ((kindsOf vs (x.l.take k)).map (Value.int .i64)) ∧ (∀ y ∈ x.l.take k, (typX vs y).2 = 0) ∧ (∀ z ∈ kindsOf vs (x.l.take k), Fit z) ∧ Below w1.heap.size w1 wr) (fun i _ => x.l.length - (intOf i).toNat)
    case atStart => exact ⟨0, _, Nat.zero_le _, rfl, hK2, hrow2, fun y hy => by simp at hy, fun z hz => by simp [kindsOf] at hz, hb2⟩
    case round =>
      obtain ⟨k, kv, hk, rfl, hK, hrow, hp, hfit, hb⟩ := hrel
      have HP := Lib.hid hp
      have HF := Lib.hid hfit
      clear hp hfit
      have hbw := bthen hb0 hb
      have hsz := hb.size
      by_cases hlt : k < x.l.length
      · obtain ⟨b, o, y, lv, n', hn, rfl, hD, hx, hex, hfv, hsl, e0, e1, e2, e3, e4, e5⟩ := (SlE.now hl0 hb).at_ hlt
        have HX := Lib.hid hx
        have hoky := HOK.out y (List.mem_of_getElem? hx)
        obtain ⟨A2, c2', rfl, m1, m2, _⟩ := hsl.open_
        have hb3 := bone wr (.cells #[.int .i64 y.op, .int .i64 y.v.kind, .int .i64 y.v.n, .string y.v.s, .string y.s, .slice A2 y.l.length c2'] 28)
        have hcall := Lib.hid (ih n' (by omega) vs y _ _ _ ((hv0.now hb).now hb3) (hex.now hb3) hoky)
        clear hx hex hfv hsl hoky
        go_wp2_with fail
        refine hcall.out.mono ?_
        clear hcall
        rintro e w4 ⟨rfl, hft, hb4⟩
        have hbw4 := bthen hbw (bthen hb3 hb4)
        have hb4' := bthen hb (bthen hb3 hb4)
        have hK4 := (hK.now hb3).now hb4
        have hrow4 := own_now (own_now hrow hb3) hb4
        by_cases hz : (typX vs y).2 = 0
        · have HST := Lib.hid (typed_step HX.out hz HP.out)
          have HFT := Lib.hid (kinds_fit HX.out hft HF.out)
          have HSN := Lib.hid (kinds_snoc (vs := vs) HX.out)
          rw [hz]
          clear hz
          generalize (typX vs y).1 = ty at *
          have c0 := hK4.c1
          have hsz4 := hb4'.size
          go_wp2_with (at_builtin; first | refine wpList_push appInts rfl (.tmp 35) (.tmp 37) rfl w4 [.int .i64 ty] rfl (by simp [Value.oneCell']) kv k _ rfl hrow4 rfl (by omega) hsz4 ?_)
          intro v5 w5 hrow5 hg5 _
          have hne4 := own_ne hrow4 hK4 (by decide)
          obtain ⟨ao, n5, cap5, rfl⟩ : ∃ ao n5 cap5, v5 = .slice ao n5 cap5 := by
            rcases hrow5.2 with ⟨hv, _⟩ | ⟨g, cap, cur, hv, _⟩
            · exact ⟨_, _, _, hv⟩
            · exact ⟨_, _, _, hv⟩
          have hK5 := hK4.grown hg5 (fun e => hne4 e.symm)
          have c1 := hK5.c1
          have z1 := hK5.frozen 0
          have hb5 : Below w1.heap.size w1 w5 := hb4'.trans (below_of_grown hg5 hsz4 (fun g hg => (World.ownsRow.lt hrow4 g hg).1))
          have hne5 := own_ne hrow5 hK5 (by decide)
          have hK6 := hK5.set_ 0 (.slice ao n5 cap5)
          have hb6 : Below w1.heap.size w1 (w5.setCell ⟨w1.heap.size + 1, 0, none⟩ (.slice ao n5 cap5)) := hb5.setCell (p := ⟨w1.heap.size + 1, 0, none⟩) (by show w1.heap.size ≤ w1.heap.size + 1; omega) (.slice ao n5 cap5)
          have hrow6 : (w5.setCell ⟨w1.heap.size + 1, 0, none⟩ (.slice ao n5 cap5)).ownsRow w1.heap.size 3 1 (.slice ao n5 cap5) (k + 1) _ := ownsRow_setCell_other hrow5 hne5 (.slice ao n5 cap5)
          clear c0
          go_wp2_with fail
          go_roundw
          case rel =>
            refine ⟨k + 1, .slice ao n5 cap5, by omega, by go_num, hK6, ?_, HST.out, HFT.out, hb6⟩
            rw [HSN.out, List.map_append]
            exact hrow6
          case measure => simp [intOf]; omega
        · have HR := Lib.hid (typX_stop HX.out hz HP.out)
          have b1 : ((typX vs y).2 != 0) = true := by simpa using hz
          clear hz
          go_wp2_with fail
          go_ret2
          exact ret_T HR.out (by unfold Fit; omega) hbw4
      · obtain rfl : k = x.l.length := by omega
        rw [List.take_of_length_le (Nat.le_refl _)] at hrow
        have hpp := HP.out
        have hff := HF.out
        rw [List.take_of_length_le (Nat.le_refl _)] at hpp hff
        have HT := Lib.hid (typX_all hpp)
        have hks := SlI.of_own hrow hff
        have HKL := Lib.hid (kinds_len vs x.l)
        clear hpp hff HP HF hrow
        generalize hkg : kindsOf vs x.l = ks at *
        clear hkg
        have HALL := Lib.hid (fun k => all_any k (w1.heap.size + 1) kv ks wr hK hks)
        have hBr := hB0.now hb
        have hvr := hv0.now hb
        clear q0 q1 q2 q3 q4 q5 hB2
        obtain ⟨q0, q1, q2, q3, q4, q5⟩ := hBr.c6
        have HTO := HT.out
        unfold typO at HTO
        have HTO := Lib.hid HTO
        have hfk := h2.kind
        have hK' := hK
        clear HT hK ih hl0 HOK
        generalize x.op = o at *
        by_cases c1 : o = 1
        · subst c1
          have HR : Hid (typX vs x = (x.v.kind, 0)) := by show _ = _; rw [HTO.out, if_pos rfl]
          clear HTO
          go_wp2_with fail
          go_ret2
          exact ret_T HR.out hfk hbw
        by_cases c2 : o = 2
        · subst c2
          have HR : Hid (typX vs x = if findV vs x.s < 0 then (0, 8) else (kindAt vs (findV vs x.s), 0)) := by show _ = _; rw [HTO.out, if_neg (by decide), if_pos rfl]
          have HFI := Lib.hid (findV_any vs x.s)
          clear HTO
          go_wp2_with fail
          refine (find_any vs x.s _ _ hvr).mono ?_
          rintro e w3 ⟨rfl, hb3⟩
          have hv3 := hvr.now hb3
          have hbw3 := bthen hbw hb3
          clear q0 q1 q2 q3 q4 q5 hBr
          generalize findV vs x.s = z at *
          rcases HFI.out with hz | ⟨i, rfl, hi⟩
          · have HR : Hid (typX vs x = (0, 8)) := by show _ = _; rw [HR.out, if_pos hz]
            go_wp2_with fail
            go_ret2
            exact ret_T HR.out (by unfold Fit; omega) hbw3
          · obtain ⟨b, o', y, iv, rfl, hD, hx, hvar, hiv, e0, e1, e2, e3, e4⟩ := hv3.at_ hi
            have hfy : Fit y.kind := by obtain ⟨_, _, _, hf, _⟩ := hvar; exact hf
            have HR : Hid (typX vs x = (y.kind, 0)) := by
              show _ = _
              rw [HR.out, if_neg (by omega)]
              unfold kindAt
              rw [Int.toNat_natCast, hx]; rfl
            have i1 : (0 : Int) ≤ (i : Int) := by omega
            have i2 : (i : Int) < (vs.length : Int) := by omega
            clear hx hvar hiv
            go_wp2_with fail
            go_ret2
            exact ret_T HR.out hfy hbw3
        by_cases c9 : o = 9
        · subst c9
          have hcall := HALL.out 2
          generalize hq : ks.all (fun x => x == 2) = q at hcall
          have HC := Lib.hid hcall
          have HR : Hid (typX vs x = if q then (2, 0) else (0, 11)) := by show _ = _; rw [HTO.out, if_neg (by decide), if_neg (by decide), if_pos (by decide), hq]
          clear hcall hq HTO
          cases q
          · have HR : Hid (typX vs x = (0, 11)) := HR.out
            go_wp2_with (go_at_fn 126; refine HC.out.mono ?_; rintro e w' ⟨rfl, hb'⟩)
            go_ret2
            exact ret_T HR.out (by unfold Fit; omega) (bthen hbw hb')
          · have HR : Hid (typX vs x = (2, 0)) := HR.out
            go_wp2_with (go_at_fn 126; refine HC.out.mono ?_; rintro e w' ⟨rfl, hb'⟩)
            go_ret2
            exact ret_T HR.out (by unfold Fit; omega) (bthen hbw hb')
        by_cases c10 : o = 10
        · subst c10
          have hcall := HALL.out 2
          generalize hq : ks.all (fun x => x == 2) = q at hcall
          have HC := Lib.hid hcall
          have HR : Hid (typX vs x = if q then (2, 0) else (0, 11)) := by show _ = _; rw [HTO.out, if_neg (by decide), if_neg (by decide), if_pos (by decide), hq]
          clear hcall hq HTO
          cases q
          · have HR : Hid (typX vs x = (0, 11)) := HR.out
            go_wp2_with (go_at_fn 126; refine HC.out.mono ?_; rintro e w' ⟨rfl, hb'⟩)
            go_ret2
            exact ret_T HR.out (by unfold Fit; omega) (bthen hbw hb')
          · have HR : Hid (typX vs x = (2, 0)) := HR.out
            go_wp2_with (go_at_fn 126; refine HC.out.mono ?_; rintro e w' ⟨rfl, hb'⟩)
            go_ret2
            exact ret_T HR.out (by unfold Fit; omega) (bthen hbw hb')
        by_cases c11 : o = 11
        · subst c11
          have hcall := HALL.out 2
          generalize hq : ks.all (fun x => x == 2) = q at hcall
          have HC := Lib.hid hcall
          have HR : Hid (typX vs x = if q then (2, 0) else (0, 11)) := by show _ = _; rw [HTO.out, if_neg (by decide), if_neg (by decide), if_pos (by decide), hq]
          clear hcall hq HTO
          cases q
          · have HR : Hid (typX vs x = (0, 11)) := HR.out
            go_wp2_with (go_at_fn 126; refine HC.out.mono ?_; rintro e w' ⟨rfl, hb'⟩)
            go_ret2
            exact ret_T HR.out (by unfold Fit; omega) (bthen hbw hb')
          · have HR : Hid (typX vs x = (2, 0)) := HR.out
            go_wp2_with (go_at_fn 126; refine HC.out.mono ?_; rintro e w' ⟨rfl, hb'⟩)
            go_ret2
            exact ret_T HR.out (by unfold Fit; omega) (bthen hbw hb')
        by_cases c7 : o = 7
        · subst c7
          have hcall := HALL.out 2
          generalize hq : ks.all (fun x => x == 2) = q at hcall
          have HC := Lib.hid hcall
          have HR : Hid (typX vs x = if q then (1, 0) else (0, 11)) := by show _ = _; rw [HTO.out, if_neg (by decide), if_neg (by decide), if_neg (by decide), if_pos (by decide), hq]
          clear hcall hq HTO
          cases q
          · have HR : Hid (typX vs x = (0, 11)) := HR.out
            go_wp2_with (go_at_fn 126; refine HC.out.mono ?_; rintro e w' ⟨rfl, hb'⟩)
            go_ret2
            exact ret_T HR.out (by unfold Fit; omega) (bthen hbw hb')
          · have HR : Hid (typX vs x = (1, 0)) := HR.out
            go_wp2_with (go_at_fn 126; refine HC.out.mono ?_; rintro e w' ⟨rfl, hb'⟩)
            go_ret2
            exact ret_T HR.out (by unfold Fit; omega) (bthen hbw hb')
        by_cases c8 : o = 8
        · subst c8
          have hcall := HALL.out 2
          generalize hq : ks.all (fun x => x == 2) = q at hcall
          have HC := Lib.hid hcall
          have HR : Hid (typX vs x = if q then (1, 0) else (0, 11)) := by show _ = _; rw [HTO.out, if_neg (by decide), if_neg (by decide), if_neg (by decide), if_pos (by decide), hq]
          clear hcall hq HTO
          cases q
          · have HR : Hid (typX vs x = (0, 11)) := HR.out
            go_wp2_with (go_at_fn 126; refine HC.out.mono ?_; rintro e w' ⟨rfl, hb'⟩)
            go_ret2
            exact ret_T HR.out (by unfold Fit; omega) (bthen hbw hb')
          · have HR : Hid (typX vs x = (1, 0)) := HR.out
            go_wp2_with (go_at_fn 126; refine HC.out.mono ?_; rintro e w' ⟨rfl, hb'⟩)
            go_ret2
            exact ret_T HR.out (by unfold Fit; omega) (bthen hbw hb')
        by_cases c3 : o = 3
        · subst c3
          have hcall := HALL.out 1
          generalize hq : ks.all (fun x => x == 1) = q at hcall
          have HC := Lib.hid hcall
          have HR : Hid (typX vs x = if q then (1, 0) else (0, 11)) := by show _ = _; rw [HTO.out, if_neg (by decide), if_neg (by decide), if_neg (by decide), if_neg (by decide), if_pos (by decide), hq]
          clear hcall hq HTO
          cases q
          · have HR : Hid (typX vs x = (0, 11)) := HR.out
            go_wp2_with (go_at_fn 126; refine HC.out.mono ?_; rintro e w' ⟨rfl, hb'⟩)
            go_ret2
            exact ret_T HR.out (by unfold Fit; omega) (bthen hbw hb')
          · have HR : Hid (typX vs x = (1, 0)) := HR.out
            go_wp2_with (go_at_fn 126; refine HC.out.mono ?_; rintro e w' ⟨rfl, hb'⟩)
            go_ret2
            exact ret_T HR.out (by unfold Fit; omega) (bthen hbw hb')
        by_cases c4 : o = 4
        · subst c4
          have hcall := HALL.out 1
          generalize hq : ks.all (fun x => x == 1) = q at hcall
          have HC := Lib.hid hcall
          have HR : Hid (typX vs x = if q then (1, 0) else (0, 11)) := by show _ = _; rw [HTO.out, if_neg (by decide), if_neg (by decide), if_neg (by decide), if_neg (by decide), if_pos (by decide), hq]
          clear hcall hq HTO
          cases q
          · have HR : Hid (typX vs x = (0, 11)) := HR.out
            go_wp2_with (go_at_fn 126; refine HC.out.mono ?_; rintro e w' ⟨rfl, hb'⟩)
            go_ret2
            exact ret_T HR.out (by unfold Fit; omega) (bthen hbw hb')
          · have HR : Hid (typX vs x = (1, 0)) := HR.out
            go_wp2_with (go_at_fn 126; refine HC.out.mono ?_; rintro e w' ⟨rfl, hb'⟩)
            go_ret2
            exact ret_T HR.out (by unfold Fit; omega) (bthen hbw hb')
        by_cases c5 : o = 5
        · subst c5
          have hcall := HALL.out 1
          generalize hq : ks.all (fun x => x == 1) = q at hcall
          have HC := Lib.hid hcall
          have HR : Hid (typX vs x = if q then (1, 0) else (0, 11)) := by show _ = _; rw [HTO.out, if_neg (by decide), if_neg (by decide), if_neg (by decide), if_neg (by decide), if_pos (by decide), hq]
          clear hcall hq HTO
          cases q
          · have HR : Hid (typX vs x = (0, 11)) := HR.out
            go_wp2_with (go_at_fn 126; refine HC.out.mono ?_; rintro e w' ⟨rfl, hb'⟩)
            go_ret2
            exact ret_T HR.out (by unfold Fit; omega) (bthen hbw hb')
          · have HR : Hid (typX vs x = (1, 0)) := HR.out
            go_wp2_with (go_at_fn 126; refine HC.out.mono ?_; rintro e w' ⟨rfl, hb'⟩)
            go_ret2
            exact ret_T HR.out (by unfold Fit; omega) (bthen hbw hb')
        obtain ⟨A3, c3', rfl, m1, m2, hks⟩ := hks.open_
        have c0 := hK'.c1
        by_cases c6 : o = 6
        · subst c6
          have hln : 2 ≤ ks.length := by have := HKL.out; have := HSH.out; omega
          obtain ⟨b, o', z, rfl, hD, hx, hf, e0⟩ := hks.at_ (k := 0) (by omega)
          have hcall := HALL.out z
          have hz : ks.getD 0 0 = z := by rw [List.getD_eq_getElem?_getD, hx]; rfl
          generalize hq : ks.all (fun x => x == z) = q at hcall
          have HC := Lib.hid hcall
          have HR : Hid (typX vs x = if q then (1, 0) else (0, 11)) := by show _ = _; rw [HTO.out, if_neg (by decide), if_neg (by decide), if_neg (by decide), if_neg (by decide), if_neg (by decide), if_neg (by decide), hz, hq]
          have i2 : (0 : Int) < (ks.length : Int) := by omega
          have e0' : wr.cell? ⟨b, o', none⟩ = some (.int .i64 z) := e0
          clear hcall hq HTO hx hz e0
          cases q
          · have HR : Hid (typX vs x = (0, 11)) := HR.out
            go_wp2_with (go_at_fn 126; refine HC.out.mono ?_; rintro e w' ⟨rfl, hb'⟩)
            go_ret2
            exact ret_T HR.out (by unfold Fit; omega) (bthen hbw hb')
          · have HR : Hid (typX vs x = (1, 0)) := HR.out
            go_wp2_with (go_at_fn 126; refine HC.out.mono ?_; rintro e w' ⟨rfl, hb'⟩)
            go_ret2
            exact ret_T HR.out (by unfold Fit; omega) (bthen hbw hb')
        by_cases c13 : o = 13
        · subst c13
          have hln : 2 ≤ ks.length := by have := HKL.out; have := HSH.out; omega
          obtain ⟨b, o', z, rfl, hD, hx, hf, e0⟩ := hks.at_ (k := 0) (by omega)
          have hcall := HALL.out z
          have hz : ks.getD 0 0 = z := by rw [List.getD_eq_getElem?_getD, hx]; rfl
          generalize hq : ks.all (fun x => x == z) = q at hcall
          have HC := Lib.hid hcall
          have HR : Hid (typX vs x = if q then (1, 0) else (0, 11)) := by show _ = _; rw [HTO.out, if_neg (by decide), if_neg (by decide), if_neg (by decide), if_neg (by decide), if_neg (by decide), if_neg (by decide), hz, hq]
          have i2 : (0 : Int) < (ks.length : Int) := by omega
          have e0' : wr.cell? ⟨b, o', none⟩ = some (.int .i64 z) := e0
          clear hcall hq HTO hx hz e0
          cases q
          · have HR : Hid (typX vs x = (0, 11)) := HR.out
            go_wp2_with (go_at_fn 126; refine HC.out.mono ?_; rintro e w' ⟨rfl, hb'⟩)
            go_ret2
            exact ret_T HR.out (by unfold Fit; omega) (bthen hbw hb')
          · have HR : Hid (typX vs x = (1, 0)) := HR.out
            go_wp2_with (go_at_fn 126; refine HC.out.mono ?_; rintro e w' ⟨rfl, hb'⟩)
            go_ret2
            exact ret_T HR.out (by unfold Fit; omega) (bthen hbw hb')
        obtain rfl : o = 12 := by have := HSH.out; omega
        have hln : ks.length = 3 := by have := HKL.out; have := HSH.out; omega
        obtain ⟨b, o', z0, rfl, hD, hx0, hf0, e0⟩ := hks.at_ (k := 0) (by omega)
        obtain ⟨b1, o1, z1, hA1, _, hx1, hf1, e1⟩ := hks.at_ (k := 1) (by omega)
        injection hA1 with hA1; injection hA1 with g1 g2 _; subst g1 g2
        obtain ⟨b2, o2, z2, hA2, _, hx2, hf2, e2⟩ := hks.at_ (k := 2) (by omega)
        injection hA2 with hA2; injection hA2 with g1 g2 _; subst g1 g2
        have d0 : ks.getD 0 0 = z0 := by rw [List.getD_eq_getElem?_getD, hx0]; rfl
        have d1 : ks.getD 1 0 = z1 := by rw [List.getD_eq_getElem?_getD, hx1]; rfl
        have d2 : ks.getD 2 0 = z2 := by rw [List.getD_eq_getElem?_getD, hx2]; rfl
        have HR : Hid (typX vs x = if z0 = 1 ∧ z1 = z2 then (z1, 0) else (0, 11)) := by show _ = _; rw [HTO.out, if_neg (by decide), if_neg (by decide), if_neg (by decide), if_neg (by decide), if_neg (by decide), if_pos (by decide), d0, d1, d2]
        have e0' : wr.cell? ⟨b, o', none⟩ = some (.int .i64 z0) := e0
        have i0 : (0 : Int) < (ks.length : Int) := by omega
        have i1 : (1 : Int) < (ks.length : Int) := by omega
        have i2 : (2 : Int) < (ks.length : Int) := by omega
        clear HTO hx0 hx1 hx2 d0 d1 d2 e0 hln
        by_cases hz0 : z0 = 1
        · by_cases hz : z1 = z2
          · have HR : Hid (typX vs x = (z1, 0)) := by show _ = _; rw [HR.out, if_pos ⟨hz0, hz⟩]
            have b0 : (z0 == 1) = true := by simp [hz0]
            have b1 : (z1 == z2) = true := by simp [hz]
            clear hz0 hz
            go_upto_region 35 with fail
            go_quiet (fail)
            go_wp2_with fail
            go_ret2
            exact ret_T HR.out hf1 (bdrawn hbw _)
          · have HR : Hid (typX vs x = (0, 11)) := by show _ = _; rw [HR.out, if_neg (fun h => hz h.2)]
            have b0 : (z0 == 1) = true := by simp [hz0]
            have b1 : (z1 == z2) = false := by simp [hz]
            clear hz0 hz
            go_upto_region 35 with fail
            go_quiet (fail)
            go_wp2_with fail
            go_ret2
            exact ret_T HR.out (by unfold Fit; omega) (bdrawn hbw _)
        · have HR : Hid (typX vs x = (0, 11)) := by show _ = _; rw [HR.out, if_neg (fun h => hz0 h.1)]
          have b0 : (z0 == 1) = false := by simp [hz0]
          clear hz0
          go_upto_region 35 with fail
          go_quiet (fail)
          go_wp2_with fail
          go_ret2
          exact ret_T HR.out (by unfold Fit; omega) (bdrawn hbw _)
end Go.Proofs.YtijmnenojbfdnaaGreatDoor
