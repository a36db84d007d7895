/-
  PetriTexts: for every input the law returns true, and its arguments read as before. Conditions: the listed package variables start as the program's text lays them (the card's tie, as given).
-/
import Derived.Test.YtlkkfkkhllijbaaGreatDoorNetOpen
import Derived.Test.YtlkkfkkhllijbaaGreatDoorPtNum
import Derived.Test.YtlkkfkkhllijbaaGreatDoorRows
import Derived.Test.YtlkkfkkhllijbaaGreatDoorTie
import Derived.Test.YtlkkfkkhllijbaaGreatDoorCards
import Derived.SevenTiedAt
import Derived.LaidLaws
import Derived.Lib.LaidTab
import Derived.Lay
import Derived.MakeChecks
import Derived.Shelf.Vars
import Derived.Test.YtlkkfkkhllijbaaGreatDoorPtTxtR
import Derived.Test.YtlkkfkkhllijbaaGreatDoorPtPar
import Derived.Test.YtlkkfkkhllijbaaGreatDoorPtParR
import Derived.Test.YtlkkfkkhllijbaaGreatDoorFormsA
import Derived.Test.YtlkkfkkhllijbaaGreatDoorGreat
import Derived.Test.YtlkkfkkhllijbaaGreatDoorAwake
import Derived.Laws.StructEq
namespace Go.Proofs.YtlkkfkkhllijbaaGreatDoor
open Go.ChangeShapes Go.WideShapes Go.ChangeAt Go.RowKit Go.Deep

theorem own : ownKnob Tryz.prog.godebug = none := by kernel_rfl
theorem laidOut : laidOutB Tryz.prog = true := by kernel_rfl
theorem door_met (os : Os) (args : Array Value) : laidMetH Tryz.prog Rows.petriTextsRow.laid ((World.laidAll Tryz.prog os Rows.petriTextsRow.laid).forCall (fun _ _ => 0) ⟨#[], args, []⟩).memory := by
  rw [MakeChecks.laidMetH_plain _ _ _ (by kernel_rfl)]
  exact laidMet_laidAll _ (by kernel_rfl) (by kernel_rfl)
theorem stays {H : Type} {enc : TypeId × Value → H} {t : TypeId} (hr : Tryz.prog.readableRec t = true) (hrow : t < Tryz.prog.types.size) {W W' : World} {v : Value} {d : DataW H} {ps : List MemPlace} {sp : Nat → Bool}
    (h : DataW.Trod enc Tryz.prog W 0 (fun _ => true) true t v d ps) (hb : Below W.heap.size W W') (hlt : ∀ x ∈ ps, x.block < W.heap.size) (hsp : ∀ x ∈ ps, sp x.block = true) : DataW.Trod enc Tryz.prog W' 0 sp true t v d ps :=
  WideElems.Trod_stays laidOut hr hrow h (fun x hx => hb.same (hlt x hx)) hsp
theorem readNet : Tryz.prog.readableRec 24 = true := by kernel_rfl
theorem rowNet : 24 < Tryz.prog.types.size := of_decide_eq_true (by kernel_rfl)

/-! ### what the listed variables give -/
theorem laid_at {P : Program} {w : World} {n : String} {d : DataW Unit} : ∀ {l : List (String × DataW Unit)} {ps : List MemPlace}, DataW.LaidVars P w l ps → (n, d) ∈ l →
    ∃ g t cs fuel p, P.globalNamed n = some g ∧ (P.globals[g]?).map (·.type) = some t ∧ w.var? P n = some cs ∧ DataW.trod (fun _ => ()) P w 0 (fun _ => true) false fuel t cs.toList = some (d, p) := by
  intro l
  induction l with
  | nil => intro ps _ h; cases h
  | cons a l ih =>
    intro ps h hm
    obtain ⟨n', d'⟩ := a
    obtain ⟨g, t, cs, fuel, p, q, h1, h2, h3, h4, h5, _⟩ := h
    rcases List.mem_cons.1 hm with e | hm
    · injection e with e1 e2
      subst e1 e2
      exact ⟨g, t, cs, fuel, p, h1, h2, h3, h4⟩
    · exact ih h5 hm
theorem tab_same : (Rows.laid_internal_strconv_uint64pow10 : DataW Unit) = Lib.tabData .u64 Lib.pow10Tab := by rfl
theorem gPow : Tryz.prog.globalNamed "internal/strconv.uint64pow10" = some 1 := by kernel_rfl
theorem gSyn : Tryz.prog.globalNamed "strconv.ErrSyntax" = some 4 := by kernel_rfl
theorem gRng : Tryz.prog.globalNamed "strconv.ErrRange" = some 5 := by kernel_rfl
theorem tPow : (Tryz.prog.globals[1]?).map (·.type) = some 124 := by kernel_rfl
theorem tSyn : (Tryz.prog.globals[4]?).map (·.type) = some 64 := by kernel_rfl
theorem tRng : (Tryz.prog.globals[5]?).map (·.type) = some 64 := by kernel_rfl
theorem err_of {P : Program} {w : World} {n : String} {g : Nat} {t : TypeId} {ms : Array (String × TypeId)} {name : String} {d : DataW Unit} {l : List (String × DataW Unit)} {ps : List MemPlace} (hl : DataW.LaidVars P w l ps) (hm : (n, .iface name d) ∈ l)
    (hg : P.globalNamed n = some g) (ht : (P.globals[g]?).map (·.type) = some t) (hi : P.underlying t = some (.interface ms)) : ∃ tp p, w.var? P n = some #[.iface tp p] := by
  obtain ⟨g', t', cs, fuel, p, h1, h2, h3, h4⟩ := laid_at hl hm
  obtain rfl := Option.some.inj (hg.symm.trans h1)
  obtain rfl := Option.some.inj (ht.symm.trans h2)
  obtain ⟨_, u, v, hcs, _⟩ := iface_of_trod hi h4
  refine ⟨u, v, ?_⟩
  rw [h3]
  cases cs
  simp_all
theorem tab_of {P : Program} {w : World} {n : String} {g : Nat} {t e : TypeId} {m : Nat} {k : IntKind} {zs : List Int} {l : List (String × DataW Unit)} {ps : List MemPlace} (hl : DataW.LaidVars P w l ps) (hm : (n, Lib.tabData k zs) ∈ l)
    (hg : P.globalNamed n = some g) (hty : (P.globals[g]?).map (·.type) = some t) (ht : P.underlying t = some (.array m e)) (he : P.underlying e = some (.int k)) (hce : P.cellsOf e = 1) (hct : P.cellsOf t = m) : Lib.TabIs P w n k zs := by
  obtain ⟨g', t', cs, fuel, p, h1, h2, h3, h4⟩ := laid_at hl hm
  obtain rfl := Option.some.inj (hg.symm.trans h1)
  obtain rfl := Option.some.inj (hty.symm.trans h2)
  unfold Lib.TabIs
  rw [h3, ← Lib.cells_of_tab ht he hce hct h4]
theorem laid_list : Rows.petriTextsRow.laid = [("math/bits.deBruijn32tab", Rows.laid_math_bits_deBruijn32tab), ("math/bits.deBruijn64tab", Rows.laid_math_bits_deBruijn64tab), ("internal/strconv.uint64pow10", Rows.laid_internal_strconv_uint64pow10), ("unicode/utf8.acceptRanges", Rows.laid_unicode_utf8_acceptRanges), ("strconv.ErrRange", Rows.laid_strconv_ErrRange), ("strconv.ErrSyntax", Rows.laid_strconv_ErrSyntax), ("unicode/utf8.first", Rows.laid_unicode_utf8_first)] := rfl
theorem cellsU64 : Tryz.prog.cellsOf 110 = 1 := by kernel_rfl
theorem cellsTab : Tryz.prog.cellsOf 124 = 20 := by kernel_rfl
theorem uTab : Tryz.prog.underlying 124 = some (.array 20 110) := by kernel_rfl
theorem uU64 : Tryz.prog.underlying 110 = some (.int .u64) := by kernel_rfl
/-- The listed variables as plain readings (the laid table 'first' of utf8 is one among them). -/
theorem met_plain {w : World} (h : laidMetH Tryz.prog Rows.petriTextsRow.laid w) : laidMet Tryz.prog Rows.petriTextsRow.laid w := by
  rw [MakeChecks.laidMetH_plain _ _ _ (by kernel_rfl)] at h
  exact h
theorem amb_of {w : World} (h : laidMetH Tryz.prog Rows.petriTextsRow.laid w) (hsh : w.ShapedOpen Tryz.prog) : AmbP w := by
  obtain ⟨ps, hl, _⟩ := met_plain h
  rw [laid_list] at hl
  refine ⟨tab_of hl (by rw [← tab_same]; simp only [List.mem_cons, true_or, or_true]) gPow tPow uTab uU64 cellsU64 cellsTab, ?_, ?_, ?_⟩
  · exact err_of (name := "*errors.errorString") hl (.tail _ (.tail _ (.tail _ (.tail _ (.tail _ (.head _)))))) gSyn tSyn Tryz.underlying64
  · exact err_of (name := "*errors.errorString") hl (.tail _ (.tail _ (.tail _ (.tail _ (.head _))))) gRng tRng Tryz.underlying64
  · exact cell_of_shapedOpen_int (zero := #[.int .i64 0]) (t := 3) hsh (of_decide_eq_true (by kernel_rfl)) (by kernel_rfl) rfl (by kernel_rfl) (by kernel_rfl) Tryz.underlying3

/-- The wrap of a law's row with the listed variables and the world's shape for its contract. -/
theorem handed_shaped {H : Type} {enc : TypeId × Value → H} {a : Assume} {C : Checked} {os : Os} {f : FuncId} {fn : Func} {s : ChangeSpec} {conds : List PathCond} {apart fresh handsOn again : Bool} {X : World → Array Value → Prop}
    (hX : ∀ (w w' : World) (args : Array Value), w.heap = w'.heap → X w args → X w' args)
    (own : ownKnob C.prog.godebug = none) (started : os.Started) (noInit : C.prog.inits.idxOf? f = none) (hfn : C.prog.funcs[f]? = some fn)
    (witness : ∃ (w : World) (tape : Tape) (i : Input), w.os = os ∧ (w.forCall tape i).Shaped C.prog ∧ i.vars = [] ∧ Input.okWide C.prog (w.forCall tape i) .any w.heap.size f i ∧
      ((s.pre enc C.prog fn conds apart (w.forCall tape i).memory i.args ∧ X (w.forCall tape i).memory i.args) ∧ sizedMet enc C.prog fn (OpenSpec.ofChange s) apart (w.forCall tape i).memory i.args) ∧ a.holds C.prog (lone (Frame.enter C.prog f i.args .normal) [] (w.forCall tape i)))
    (contract : ∀ (W : World) (base : Nat) (args : Array Value) (ds gs : List (DataW H)) (before : List MemPlace),
      (∀ (j : Nat) t v, fn.params[j]? = some t → args[j]? = some v → Value.okWide C.prog W .any base t v) →
      DataW.Whole enc C.prog fn.params.toList s.vars apart W args.toList ds gs before → W.ShapedOpen C.prog → X W args →
      Calls C.prog f args W fun e W' => ∃ v, e = .returned v ∧ s.post enc C.prog fn apart fresh handsOn again W args v W') :
    ReturnsInHanded a C os f .any (fun w args => (s.pre enc C.prog fn conds apart w args ∧ X w args) ∧ sizedMet enc C.prog fn (OpenSpec.ofChange s) apart w args) (s.post enc C.prog fn apart fresh handsOn again) := by
  refine returnsInHanded_of_calls own started noInit witness ?_
  intro w tape i _ hsh _ hok hpre hholds
  obtain ⟨_, _, _, fn', hfn', _, _, _, _, hval⟩ := hok
  have e : fn' = fn := Option.some.inj (hfn'.symm.trans hfn)
  subst e
  obtain ⟨⟨⟨ds, gs, before, hw, hc⟩, hx⟩, hz⟩ := hpre
  have hw' := DataW.Whole.of_heap (w' := w.forCall tape i) (by rfl) hw
  refine (contract (w.forCall tape i) w.heap.size i.args ds gs before hval hw' hsh (hX _ _ _ (by rfl) hx)).mono fun e W' ⟨v, he, hp⟩ => ?_
  subst he
  exact ChangeSpec.post_blind hp
end Go.Proofs.YtlkkfkkhllijbaaGreatDoor
namespace Go.Proofs.YtlkkfkkhllijbaaGreatDoor
open Go.RowKit

theorem digits9 {z P : Int} (h : 0 ≤ z ∧ z < P) (hP : P ≤ 41) : 0 ≤ z ∧ (numB z).length ≤ 9 := ⟨h.1, by have := num_len z ⟨h.1, by omega⟩; omega⟩
theorem tr_label {P : Int} {t : Tr} (h : trOk P t = true) : labelOk t.label = true := by
  unfold trOk at h
  simp only [Bool.and_eq_true] at h
  exact h.1.1
/-- A valid net is read from its text. -/
theorem parse_textN {n : Net} (hv : validB n = true) (hl : (textB n).length ≤ 16384) : parseB (textB n) = (n, 0, 0) := by
  obtain ⟨v1, v2, v3, v4⟩ := validOk hv
  obtain ⟨s1, k1⟩ := insideOk hv
  refine parse_text hv hl (digits9 (P := 41) (by omega) (by omega)) (digits9 s1 (by omega)) (digits9 k1 (by omega)) fun t ht => ?_
  have h := v4 t ht
  obtain ⟨pi, po⟩ := trPlaces h
  exact ⟨tr_label h, fun z hz => digits9 (places_mem pi z hz) (by omega), fun z hz => digits9 (places_mem po z hz) (by omega)⟩
theorem textB_len {n : Net} (hv : validB n = true) : (textB n).length ≤ 100000 := by
  obtain ⟨v1, v2, v3, v4⟩ := validOk hv
  obtain ⟨s1, k1⟩ := insideOk hv
  have a := lines_len n.places v2 n.trans v4
  have a1 := num_len n.places (by omega)
  have a2 := num_len n.source (by omega)
  have a3 := num_len n.sink (by omega)
  unfold textB headB
  simp only [List.length_append, List.length_cons, List.length_nil]
  omega
theorem lines_ends : ∀ (ls : List (List UInt8)) (i : Nat) (n : Net), (linesB ls i n).2.2 = 0 ∨ (linesB ls i n).2.2 = 1 ∨ (linesB ls i n).2.2 = 3
  | [], i, n => by rw [linesB]; exact .inr (.inr rfl)
  | [l], i, n => by
    rw [linesB]
    split
    · split
      · exact .inl rfl
      · exact .inr (.inl rfl)
    · exact .inr (.inr rfl)
  | l :: m :: ls, i, n => by
    rw [linesB]
    split
    · split
      · exact .inr (.inr rfl)
      · exact lines_ends (m :: ls) _ _
    · split
      · exact .inr (.inr rfl)
      · exact lines_ends (m :: ls) _ _
theorem parse_ends (s : List UInt8) : 0 ≤ (parseB s).2.2 ∧ (parseB s).2.2 ≤ 5 := by
  unfold parseB
  split
  · exact ⟨by show (0 : Int) ≤ 5; omega, by show (5 : Int) ≤ 5; omega⟩
  · rcases lines_ends (partsB 10 s) 0 noNet with h | h | h <;> rw [h] <;> omega
theorem fieldsPos : ((Program.fieldsOf Tryz.prog 28).toList.map fun f => (f.name == "_", f.type, f.offset)) = [(false, 3, 0), (false, 3, 1)] := by kernel_rfl
theorem eqF_int {P : Program} {d t o : Nat} {xs ys : Array Value} {f : Field} {l : List Field} {q : Bool × Nat × Nat} {a b : Int} (hf : (f.name == "_", f.type, f.offset) = q) (hq : q = (false, t, o)) (ht : P.underlying t = some (.int .i64)) (hx : xs[o]? = some (.int .i64 a)) (hy : ys[o]? = some (.int .i64 b)) (W : World) :
    (Op.eqFields (d + 1) xs ys (f :: l)).run P W = if a == b then (Op.eqFields (d + 1) xs ys l).run P W else .ok false W := by
  rw [hq] at hf
  simp only [Prod.mk.injEq, beq_eq_false_iff_ne] at hf
  obtain ⟨h1, h2, h3⟩ := hf
  simp only [Op.eqFields, h1, h2, h3, ne_eq, not_false_eq_true, if_true]
  simp only [Sem.run_bind, part, isAgg, run_underlying ht, Result.andThen_ok, Sem.run_pure, Bool.false_eq_true, if_false, hx, hy, run_equalIn_int W d t .i64 .i64 a b ht]
  cases a == b <;> simp
theorem posNeq (a b c d : Int) (W : World) : (binOp .neq 28 (.agg #[.int .i64 a, .int .i64 b]) (.agg #[.int .i64 c, .int .i64 d])).run Tryz.prog W = .ok (.bool (!(a == c && b == d))) W := by
  rw [run_neq_struct, show (10000 : Nat) = 9998 + 1 + 1 from rfl, run_equalIn_agg (ht := by kernel_rfl) (hp := by kernel_rfl)]
  have hF := fieldsPos
  generalize (Program.fieldsOf Tryz.prog 28).toList = L at hF
  rcases L with _ | ⟨f1, L⟩
  · simp at hF
  rcases L with _ | ⟨f2, L⟩
  · simp at hF
  rcases L with _ | ⟨f4, L⟩
  · rw [List.map_cons, List.map_cons, List.map_nil] at hF
    injection hF with e1 hF
    injection hF with e2 hF
    have hi : Program.underlying Tryz.prog 3 = some (.int .i64) := by kernel_rfl
    rw [eqF_int e1 rfl hi rfl rfl, eqF_int e2 rfl hi rfl rfl]
    cases a == c <;> cases b == d <;> simp [Op.eqFields]
  · simp at hF

def netV (n : Net) (A : Option Addr) (c : Nat) : Value := .agg #[.int .i64 n.places, .slice A n.trans.length c, .int .i64 n.source, .int .i64 n.sink]
theorem IsNet.form {D : Nat → Prop} {w : World} {v : Value} {n : Net} (h : IsNet D w v n) : ∃ A c, v = .agg #[.int .i64 n.places, .slice A n.trans.length c, .int .i64 n.source, .int .i64 n.sink] := by
  obtain ⟨tv, rfl, _, _, _, ht⟩ := h
  obtain ⟨A, c, rfl, _, _, _⟩ := ht.open_
  exact ⟨A, c, rfl⟩

set_option maxHeartbeats 8000000 in
set_option maxRecDepth 100000 in
theorem petriTexts_law (n : Net) (s : ByteArray) (v : Value) (w : World) (h : IsNet (Lt w.heap.size) w v n) (hs : s.size ≤ maxLen) (ha : AmbP w) :
    Calls Tryz.prog 3 #[v, .string s] w fun e w' => e = .returned (.bool true) ∧ Below w.heap.size w w' := by
  obtain ⟨A, c, rfl⟩ := h.form
  unfold maxLen at hs
  have hb := bone w (.cells #[.int .i64 n.places, .slice A n.trans.length c, .int .i64 n.source, .int .i64 n.sink] 24)
  have hB := Blk.new w 24 #[.int .i64 n.places, .slice A n.trans.length c, .int .i64 n.source, .int .i64 n.sink]
  go_enter Tryz.func3, Tryz.ntmps3
  go_wp2_with fail
  refine (awake_any _).mono ?_
  rintro e w1 ⟨rfl, hb1⟩
  have hb2 := bthen hb hb1
  have hB1 := hB.now hb1
  clear hb hB hb1
  go_upto_region 3 with fail
  obtain ⟨q0, q1, q2, q3⟩ := hB1.c4
  have HQ : Hid (∃ q : Bool, q = (greatB n || (decide (2000 < s.size) && decide (s.size ≤ 16384)) || decide (20000 < s.size))) := ⟨_, rfl⟩
  obtain ⟨q, hq⟩ := HQ.out
  have HQ := Lib.hid hq
  clear hq
  go_cut [35] from 19 to 35 (fun s35 W => s35 = .bool q ∧ Below w1.heap.size w1 W)
  case first =>
    go_wp2_with fail
    refine (great_any n _ _ (h.now hb2)).mono ?_
    rintro e w2 ⟨rfl, hb3⟩
    clear q0 q1 q2 q3
    generalize greatB n = g at *
    cases g
    rotate_left
    · obtain rfl : q = true := by rw [HQ.out]; simp
      go_wp2_with fail
      go_meet
      exact ⟨rfl, hb3⟩
    by_cases c1 : 2000 < s.size <;> by_cases c2 : s.size ≤ 16384 <;> by_cases c3 : 20000 < s.size
    all_goals
      first
        | (exfalso; omega)
        | (go_wp2_with fail
           go_meet
           refine ⟨?_, hb3⟩
           rw [HQ.out]
           first | (simp [c1, c2, c3]; done) | (simp [c1, c2, c3]; omega))
  case rest =>
    obtain ⟨rfl, hb3⟩ := hcut
    have hb4 := bthen hb2 hb3
    have hB4 := hB1.now hb3
    clear hB1 hb2 hb3 q0 q1 q2 q3
    cases q
    rotate_left
    · go_wp2_with fail
      go_ret
      exact ⟨rfl, hb4⟩
    have hs1 : s.size ≤ 20000 := by
      have := HQ.out.symm
      simp only [Bool.or_eq_false_iff, decide_eq_false_iff_not] at this
      omega
    clear HQ
    have ha4 := ha.now hb4
    obtain ⟨q0, q1, q2, q3⟩ := hB4.c4
    have HPE := Lib.hid (parse_ends s.data.toList)
    go_wp2_with fail
    refine (parse_any s _ (by omega) ha4).mono ?_
    rintro e w5 ⟨xv, rfl, hx, hb5⟩
    have hB5 := hB4.now hb5
    have hb6 := bthen hb4 hb5
    clear q0 q1 q2 q3 hB4 hb4 hb5
    generalize hP : parseB s.data.toList = P at *
    obtain ⟨m, line, er⟩ := P
    have HP := Lib.hid hP
    clear hP
    obtain ⟨Ax, cx, rfl⟩ := hx.form
    dsimp only at hx ⊢
    have HPE2 : Hid (0 ≤ er ∧ er ≤ 5) := HPE.out
    clear HPE
    obtain ⟨col, hcol⟩ : ∃ col : Int, (if line = 0 then (0 : Int) else 1) = col := ⟨_, rfl⟩
    rw [hcol]
    have HCOL := Lib.hid hcol
    clear hcol
    have hbp := bbox (bone w5 (.cells #[.int .i64 m.places, .slice Ax m.trans.length cx, .int .i64 m.source, .int .i64 m.sink] 24)) (.cells #[.int .i64 (line : Int), .int .i64 col] 28)
    have hX6 := (Blk.new w5 24 #[.int .i64 m.places, .slice Ax m.trans.length cx, .int .i64 m.source, .int .i64 m.sink]).alloc (.cells #[.int .i64 (line : Int), .int .i64 col] 28)
    have hP6 := Blk.new_at (t := 28) (cs := #[.int .i64 (line : Int), .int .i64 col]) (w := w5.alloc (.cells #[.int .i64 m.places, .slice Ax m.trans.length cx, .int .i64 m.source, .int .i64 m.sink] 24)) (s := w5.heap.size + 1) (World.size_alloc _ _)
    have hx6 := hx.now hbp
    have hB6 := hB5.now hbp
    have hb7 := bthen hb6 hbp
    clear hB5 hb6 hx
    go_wp2_with fail
    generalize hw6 : ((w5.alloc (.cells #[.int .i64 m.places, .slice Ax m.trans.length cx, .int .i64 m.source, .int .i64 m.sink] 24)).alloc (.cells #[.int .i64 (line : Int), .int .i64 col] 28)) = w6 at *
    clear hw6 hbp
    refine (parse_ref s _ (by omega)).mono ?_
    rintro e w7 ⟨yv, rfl, hy, hb8⟩
    rw [HP.out] at hy
    rw [HP.out]
    obtain ⟨Ay, cy, rfl⟩ := hy.form
    have hX7 := hX6.now hb8
    have hP7 := hP6.now hb8
    have hx7 := hx6.now hb8
    have hB7 := hB6.now hb8
    have hb9 := bthen hb7 hb8
    clear hX6 hP6 hx6 hB6 hb7 hb8
    dsimp only at hy ⊢
    have hby := bbox (bone w7 (.cells #[.int .i64 m.places, .slice Ay m.trans.length cy, .int .i64 m.source, .int .i64 m.sink] 24)) (.cells #[.int .i64 0, .int .i64 0] 28)
    have hY8 := (Blk.new w7 24 #[.int .i64 m.places, .slice Ay m.trans.length cy, .int .i64 m.source, .int .i64 m.sink]).alloc (.cells #[.int .i64 0, .int .i64 0] 28)
    have hQ8 := Blk.new_at (t := 28) (cs := #[.int .i64 0, .int .i64 0]) (w := w7.alloc (.cells #[.int .i64 m.places, .slice Ay m.trans.length cy, .int .i64 m.source, .int .i64 m.sink] 24)) (s := w7.heap.size + 1) (World.size_alloc _ _)
    go_upto_if 50 with fail
    generalize hw8 : ((w7.alloc (.cells #[.int .i64 m.places, .slice Ay m.trans.length cy, .int .i64 m.source, .int .i64 m.sink] 24)).alloc (.cells #[.int .i64 0, .int .i64 0] 28)) = w8 at *
    clear hw8
    have f0 := hQ8.frozen 0
    have f1 := hQ8.frozen 1
    obtain ⟨r0, r1⟩ := hQ8.c2
    go_cut [] from 50 to 52 (fun W => Blk W w7.heap.size 24 #[.int .i64 m.places, .slice Ay m.trans.length cy, .int .i64 m.source, .int .i64 m.sink] ∧ Blk W (w7.heap.size + 1) 28 #[.int .i64 (line : Int), .int .i64 col] ∧ Below w7.heap.size w7 W)
    case first =>
      by_cases hl0 : line = 0
      · have HC0 : Hid (col = 0) := by show _ = _; rw [← HCOL.out, if_pos hl0]
        have d0 : ¬ (0 : Int) < (line : Int) := by omega
        have HL0 := Lib.hid hl0
        clear hl0
        go_wp2_with fail
        go_meet
        refine ⟨hY8, ?_, hby⟩
        rw [HC0.out, HL0.out]
        exact hQ8
      · have HC0 : Hid (col = 1) := by show _ = _; rw [← HCOL.out, if_neg hl0]
        have d0 : (0 : Int) < (line : Int) := by omega
        go_wp2_with fail
        go_meet
        rw [HC0.out]
        exact ⟨(hY8.far (p := ⟨w7.heap.size + 1, 0, none⟩) (show w7.heap.size ≠ w7.heap.size + 1 by omega) _).far (p := ⟨w7.heap.size + 1, 1, none⟩) (show w7.heap.size ≠ w7.heap.size + 1 by omega) _, (hQ8.set_ 0 _).set_ 1 _, (hby.setCell (p := ⟨w7.heap.size + 1, 0, none⟩) (show w7.heap.size ≤ w7.heap.size + 1 by omega) _).setCell (p := ⟨w7.heap.size + 1, 1, none⟩) (show w7.heap.size ≤ w7.heap.size + 1 by omega) _⟩
    case rest =>
      obtain ⟨hY9, hQ9, hb10⟩ := hcut
      have hy9 := hy.now hb10
      have hx9 := hx7.now hb10
      have hX9 := hX7.now hb10
      have hP9 := hP7.now hb10
      have hB9 := hB7.now hb10
      have hb11 := bthen hb9 hb10
      clear hy hx7 hX7 hP7 hB7 hb9 hb10 hY8 hQ8 f0 f1 r0 r1 hby
      obtain ⟨x0, x1, x2, x3⟩ := hX9.c4
      obtain ⟨y0, y1, y2, y3⟩ := hY9.c4
      obtain ⟨p0, p1⟩ := hP9.c2
      obtain ⟨s0, s1⟩ := hQ9.c2
      have hneq : ∀ W, (binOp .neq 28 (.agg #[.int .i64 (line : Int), .int .i64 col]) (.agg #[.int .i64 (line : Int), .int .i64 col])).run Tryz.prog W = .ok (.bool false) W := fun W => by rw [posNeq]; simp
      have herr : (er != er) = false := by simp
      go_wp2_with fail
      refine (sameNet m _ _ _ hx9 hy9).mono ?_
      rintro e w10 ⟨rfl, hb12⟩
      have hP10 := hP9.now hb12
      have hQ10 := hQ9.now hb12
      have hB10 := hB9.now hb12
      have hb13 := bthen hb11 hb12
      clear x0 x1 x2 x3 y0 y1 y2 y3 p0 p1 s0 s1 hx9 hX9 hP9 hB9 hb11 hb12 hQ9 hY9 hy9
      obtain ⟨p0, p1⟩ := hP10.c2
      obtain ⟨s0, s1⟩ := hQ10.c2
      obtain ⟨q0, q1, q2, q3⟩ := hB10.c4
      go_wp2_with fail
      refine (text_any n _ _ (h.now hb13)).mono ?_
      rintro e w11 ⟨rfl, hb14⟩
      have hB11 := hB10.now hb14
      have hb15 := bthen hb13 hb14
      clear q0 q1 q2 q3 p0 p1 s0 s1 hP10 hQ10 hB10 hb13 hb14 hneq herr
      obtain ⟨q0, q1, q2, q3⟩ := hB11.c4
      go_wp2_with fail
      refine (valid_ref n _ _ (h.now hb15)).mono ?_
      rintro e w12 ⟨rfl, hb16⟩
      have hB12 := hB11.now hb16
      have hb17 := bthen hb15 hb16
      clear q0 q1 q2 q3 hB11 hb15 hb16
      obtain ⟨q0, q1, q2, q3⟩ := hB12.c4
      cases hv : validB n
      · have HTE : textE n = (⟨#[]⟩, 1) := by unfold textE; rw [if_pos hv]
        rw [HTE]
        have HV := Lib.hid hv
        clear hv HTE
        go_wp2_with fail
        go_ret
        exact ⟨rfl, hb17⟩
      · have HTE : textE n = (⟨(textB n).toArray⟩, 0) := by unfold textE; rw [if_neg (by rw [hv]; simp)]
        rw [HTE]
        have HV := Lib.hid hv
        have HTR := Lib.hid (fun W hb => text_ref n _ W (h.now hb) hv)
        have htl := textB_len hv
        have HPT := Lib.hid (fun hl => parse_textN hv hl)
        clear hv HTE
        obtain ⟨T, hT⟩ : ∃ T : ByteArray, (⟨(textB n).toArray⟩ : ByteArray) = T := ⟨_, rfl⟩
        have hTl : T.data.toList = textB n := by rw [← hT]
        have hTs : T.size = (textB n).length := by rw [← hT]; show (textB n).toArray.size = _; simp
        rw [hT]
        rw [hT] at HTR
        have HTL := Lib.hid hTl
        have HTS := Lib.hid hTs
        clear hT hTl hTs
        go_wp2_with fail
        refine (HTR.out _ hb17).mono ?_
        rintro e w13 ⟨rfl, hb18⟩
        have hB13 := hB12.now hb18
        have hb19 := bthen hb17 hb18
        clear q0 q1 q2 q3 hB12 hb17 hb18
        obtain ⟨q0, q1, q2, q3⟩ := hB13.c4
        go_wp2_with fail
        refine (parse_any T _ (by rw [HTS.out]; omega) (ha.now hb19)).mono ?_
        rintro e w14 ⟨zv, rfl, hz, hb20⟩
        have hB14 := hB13.now hb20
        have hb21 := bthen hb19 hb20
        clear q0 q1 q2 q3 hB13 hb19 hb20
        generalize hP2 : parseB T.data.toList = P2 at *
        obtain ⟨m2, line2, er2⟩ := P2
        have HP2 := Lib.hid hP2
        clear hP2
        obtain ⟨Az, cz, rfl⟩ := hz.form
        dsimp only at hz ⊢
        obtain ⟨col2, hcol2⟩ : ∃ col : Int, (if line2 = 0 then (0 : Int) else 1) = col := ⟨_, rfl⟩
        rw [hcol2]
        clear hcol2
        have hbz := bbox (bone w14 (.cells #[.int .i64 m2.places, .slice Az m2.trans.length cz, .int .i64 m2.source, .int .i64 m2.sink] 24)) (.cells #[.int .i64 (line2 : Int), .int .i64 col2] 28)
        have hZ := (Blk.new w14 24 #[.int .i64 m2.places, .slice Az m2.trans.length cz, .int .i64 m2.source, .int .i64 m2.sink]).alloc (.cells #[.int .i64 (line2 : Int), .int .i64 col2] 28)
        have hB15 := hB14.now hbz
        have hz15 := hz.now hbz
        have hb22 := bthen hb21 hbz
        have HTSZ := Lib.hid HTS.out
        clear hB14 hb21 hz
        go_upto_region 18 with fail
        generalize hw15 : ((w14.alloc (.cells #[.int .i64 m2.places, .slice Az m2.trans.length cz, .int .i64 m2.source, .int .i64 m2.sink] 24)).alloc (.cells #[.int .i64 (line2 : Int), .int .i64 col2] 28)) = w15 at *
        clear hw15 hbz
        obtain ⟨q0, q1, q2, q3⟩ := hB15.c4
        obtain ⟨z0, z1, z2, z3⟩ := hZ.c4
        by_cases hlong : 16384 < T.size
        · have d0 : (16384 : Int) < (T.size : Int) := by omega
          go_wp2_with fail
          go_ret
          exact ⟨rfl, hb22⟩
        · have d0 : ¬ (16384 : Int) < (T.size : Int) := by omega
          have hPT := HPT.out (by rw [← HTS.out]; omega)
          rw [← HTL.out, HP2.out] at hPT
          injection hPT with e1 e2
          injection e2 with e2 e3
          subst e1 e2 e3
          go_wp2_with fail
          refine (sameNet m2 _ _ _ hz15 (h.now hb22)).mono ?_
          rintro e w16 ⟨rfl, hb23⟩
          go_wp2_with fail
          go_ret
          exact ⟨rfl, bthen hb22 hb23⟩
end Go.Proofs.YtlkkfkkhllijbaaGreatDoor
namespace Go.Proofs.YtlkkfkkhllijbaaGreatDoor
open Go.ChangeShapes Go.WideShapes Go.ChangeAt Go.RowKit

set_option maxRecDepth 100000 in
theorem petriTexts_lifted (os : Os) (started : os.Started) (H : Type) (enc : TypeId × Value → H) :
    ReturnsInHanded {} Tryz.checked os 3 .any (fun w args => (Rows.petriTextsSpec.pre enc Tryz.prog Tryz.f3 [] false w args ∧ laidMetH Tryz.prog Rows.petriTextsRow.laid w) ∧ sizedMet enc Tryz.prog Tryz.f3 (OpenSpec.ofChange Rows.petriTextsSpec) false w args)
      (Rows.petriTextsSpec.post enc Tryz.prog Tryz.f3 false true false false) := by
  refine handed_shaped (C := Tryz.checked) (X := fun w _ => laidMetH Tryz.prog Rows.petriTextsRow.laid w) (fun _ _ _ hh h => h.of_heap hh) own started (by kernel_rfl) Tryz.func3
    (ChangeSpec.witness_shaped (enc := enc) (C := Tryz.checked) (os := os) (X := fun w _ => laidMetH Tryz.prog Rows.petriTextsRow.laid w) false (World.laidAll Tryz.prog os Rows.petriTextsRow.laid) #[.agg #[.int .i64 0, .slice none 0 0, .int .i64 0, .int .i64 0], .string ⟨#[]⟩] 8 (World.laidAll_os _ _ _) (World.shaped_of_ZipB (by kernel_rfl) (by kernel_rfl)) (by kernel_rfl) (by kernel_rfl) (by kernel_rfl) (door_met os _)) ?_
  intro W base args ds gs before hval0 hW hsh hL
  have hval : ∀ (j : Nat) t v, Tryz.f3.params[j]? = some t → args[j]? = some v → Value.okWide Tryz.prog W .any base t v := hval0
  have hW' := hW
  obtain ⟨p, q, hA0, hV, rfl, hfz, hnd⟩ := hW
  have hA : DataW.TrodAll enc Tryz.prog W 0 (fun _ => true) true Tryz.f3.params.toList args.toList ds p := hA0
  have hlt : ∀ x ∈ p, x.block < W.heap.size := fun x hx => hW'.lt x (List.mem_append_left _ hx)
  rw [Tryz.params3] at hA hval
  obtain ⟨v0, v1, d0, d1, p0, p1, rfl, rfl, rfl, h0, h1⟩ := trodAll_two hA
  obtain ⟨rfl, rfl⟩ := trodVars_none hV
  clear hA0 hval0
  simp only [List.append_nil] at hW'
  have hlt0 : ∀ x ∈ p0, x.block < W.heap.size := fun x hx => hlt x (by simp [hx])
  have hlt1 : ∀ x ∈ p1, x.block < W.heap.size := fun x hx => hlt x (by simp [hx])
  obtain ⟨x0, hx0⟩ := net_of (hval 0 _ v0 rfl rfl) h0
  obtain ⟨x1, rfl, rfl, rfl, hx1⟩ := Go.ChangeMaps.open_string Tryz.underlying9 (hval 1 _ v1 rfl rfl) h1
  refine (petriTexts_law x0 x1 v0 W hx0 hx1 (amb_of hL hsh)).mono fun e W' ⟨he, hb⟩ => ?_
  subst he
  have hbef : ∀ sp : Nat → Bool, (∀ x ∈ p0 ++ [], sp x.block = true) → (∀ x ∈ p0, sp x.block = true) ∧ True :=
    fun sp h => ⟨fun x hx => h x (by simp [hx]), trivial⟩
  exact ⟨_, rfl, post_of_below (pa := p0 ++ ([])) (pv := []) hW' (fun _ _ _ => trodAll_mk1 (shut_bool Tryz.underlying4 _))
    (fun sp hsp => trodAll_mk2 (stays readNet rowNet h0 hb hlt0 (hbef sp hsp).1) (Go.ChangeMaps.shut_string Tryz.underlying9 hx1))
    (fun _ _ => rfl) (by simp) hb (ok_one (by kernel_rfl) rfl (okWide_bool_mk Tryz.underlying4 _))⟩

theorem petriTexts_holds : Rows.PetriTextsSaid :=
  OpenClaim.holds_of_wide 3 Tryz.f3 rfl rfl rfl rfl rfl rfl rfl ⟨rfl, rfl, rfl, rfl, rfl⟩ rfl rfl rfl rfl rfl (by kernel_rfl) Tryz.func3 (by kernel_rfl)
    (of_decide_eq_true (by kernel_rfl)) (by unfold Func.isWrapper; first | (rw [if_pos (by decide +kernel)]; kernel_rfl) | (rw [if_neg (by decide +kernel)]; exact ⟨rfl, rfl⟩))
    (fun os started H enc _ => petriTexts_lifted os started H enc)

theorem petriTexts_card : Rows.PetriTextsCardSaid :=
  Claim7.holds_tied_plain_at .later [] Rows.petriTextsCard.laidKinds true Rows.petriTextsCard.stood.harness Rows.petriTextsCard.stood.looks
    petriTexts_holds (fun _ h => by cases h) (by kernel_rfl) (fun _ h => by cases h) petriTexts_row_tie rfl ⟨rfl, rfl⟩ (by kernel_rfl) rfl
    (fun f fn hf hfn => by
      obtain rfl : f = 3 := Option.some.inj ((show Tryz.prog.funcNamed Rows.petriTextsRow.func = some 3 by kernel_rfl).symm.trans hf) |>.symm
      obtain rfl : fn = Tryz.f3 := (Option.some.inj (Tryz.func3.symm.trans hfn)).symm
      exact ⟨by kernel_rfl, fun j t ht => by
        rw [Tryz.params3] at ht
        have hm : t ∈ [24, 9] := by simpa using Array.mem_of_getElem? ht
        have hall : ([24, 9].all fun u => !Tryz.prog.wantsStandIn u) = true := by kernel_rfl
        exact (show Tryz.prog.wantsStandIn t = false by simpa using List.all_eq_true.1 hall t hm)⟩)
    (by kernel_rfl)
end Go.Proofs.YtlkkfkkhllijbaaGreatDoor
