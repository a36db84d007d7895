/- petri.Text. -/
import Derived.Test.YtlkkfkkhllijbaaDoorBuilder
import Derived.Test.YtlkkfkkhllijbaaDoorFire
import Derived.StillTailTactics
import Derived.Test.YtlkkfkkhllijbaaDoorInitial
namespace Go.Proofs.YtlkkfkkhllijbaaDoor
open Go.RowKit

def numB (z : Int) : List UInt8 := Lib.decDigits z.toNat
def numsB (l : List Int) : List UInt8 := l.flatMap fun z => 32 :: numB z
def labelB (s : ByteArray) : List UInt8 := if s.size = 0 then [95] else s.data.toList
def lineB (t : Tr) : List UInt8 := labelB t.label ++ [58] ++ numsB t.ins ++ [32, 45, 62] ++ numsB t.outs ++ [10]
def headB (n : Net) : List UInt8 := [110, 101, 116, 32] ++ numB n.places ++ [32, 115, 111, 117, 114, 99, 101, 32] ++ numB n.source ++ [32, 115, 105, 110, 107, 32] ++ numB n.sink ++ [10]
def textB (n : Net) : List UInt8 := headB n ++ n.trans.flatMap lineB

def Small (l : List Int) : Prop := ∀ z ∈ l, 0 ≤ z ∧ z < 100
theorem dec_len (u : Nat) (h : u < 100) : (Lib.decDigits u).length ≤ 2 := by
  rw [Lib.decDigits]
  split
  · simp
  · rw [Lib.decDigits]
    split
    · simp
    · omega
theorem num_len (z : Int) (h : 0 ≤ z ∧ z < 100) : (numB z).length ≤ 2 := by unfold numB; exact dec_len _ (by omega)
theorem nums_snoc (l : List Int) (k : Nat) (z : Int) (h : l[k]? = some z) : numsB (l.take (k + 1)) = numsB (l.take k) ++ (32 :: numB z) := by
  have hk : k < l.length := by
    rcases Nat.lt_or_ge k l.length with h' | h'
    · exact h'
    · rw [List.getElem?_eq_none h'] at h; cases h
  rw [List.getElem?_eq_getElem hk] at h
  injection h with h
  unfold numsB
  rw [List.take_succ_eq_append_getElem hk, List.flatMap_append, h]
  simp
theorem nums_len (l : List Int) (h : Small l) : (numsB l).length ≤ 3 * l.length := by
  unfold numsB
  induction l with
  | nil => simp
  | cons z l ih =>
    have a := ih (fun y hy => h y (by simp [hy]))
    have b := num_len z (h z (by simp))
    simp only [List.flatMap_cons, List.length_append, List.length_cons] at *
    omega
theorem lines_snoc (l : List Tr) (k : Nat) (z : Tr) (h : l[k]? = some z) : (l.take (k + 1)).flatMap lineB = (l.take k).flatMap lineB ++ lineB z := by
  have hk : k < l.length := by
    rcases Nat.lt_or_ge k l.length with h' | h'
    · exact h'
    · rw [List.getElem?_eq_none h'] at h; cases h
  rw [List.getElem?_eq_getElem hk] at h
  injection h with h
  rw [List.take_succ_eq_append_getElem hk, List.flatMap_append, h]
  simp
theorem data_mk (l : List UInt8) : (⟨l.toArray⟩ : ByteArray).data.toList = l := rfl
theorem size_mk (l : List UInt8) : (⟨l.toArray⟩ : ByteArray).size = l.length := by simp [ByteArray.size]
theorem string_mk (l : List UInt8) (s : ByteArray) (h : s.data.toList = l) : s = ⟨l.toArray⟩ := by
  subst h; rfl

set_option maxHeartbeats 1000000 in
theorem list_any (lv : Value) (zs : List Int) (B b : Nat) (l0 : List UInt8) (w : World) (hz : Small zs) (hb : Bld w B b l0) (hB : B ≤ w.heap.size)
    (hlen : l0.length + 3 * zs.length ≤ 100000000) (hD : SlI (Lt B) w lv zs) :
    Calls Tryd.prog 32 #[lv, .pointer (some ⟨b, 0, none⟩)] w fun e w' => e = .returned (.tuple #[]) ∧ Bld w' B b (l0 ++ numsB zs) ∧ Below B w w' ∧ Lib.OthersKept 5 (some b) w w' := by
  obtain ⟨A, c, rfl, h1, h2, hD⟩ := hD.open_
  go_enter Tryd.func32, Tryd.ntmps32
  go_wp2_with fail
  go_loopw [7] (fun i wr => ∃ k : Nat, k ≤ zs.length ∧ i = .int .i64 k ∧ Bld wr B b (l0 ++ numsB (zs.take k)) ∧ Below B w wr ∧ Lib.OthersKept 5 (some b) w wr) (fun i _ => zs.length - (intOf i).toNat)
  case atStart => exact ⟨0, Nat.zero_le _, rfl, by simpa [numsB] using hb, Below.refl _ _, Lib.OthersKept.refl _ _ _⟩
  case round =>
    obtain ⟨k, hk, rfl, hbr, hbw, hok⟩ := hrel
    have hsz := hbw.size
    by_cases hlt : k < zs.length
    · obtain ⟨b1, o1, z, rfl, hD1, hx, hf, c0⟩ := (hD.below hbw (Nat.le_refl _)).at_ hlt
      have hzz := hz z (List.mem_of_getElem? hx)
      obtain ⟨y, rfl⟩ := Int.eq_ofNat_of_zero_le hzz.1
      have hn := nums_len (zs.take k) (fun q hq => hz q (List.mem_of_mem_take hq))
      have hd := dec_len y (by omega)
      have HN := Lib.hid (nums_snoc zs k _ hx)
      have hle : (l0 ++ numsB (zs.take k)).length + 3 ≤ 140737488355328 := by
        simp only [List.length_append]; rw [List.length_take] at hn; omega
      have HI := Lib.hid (Tryd.strconv_Itoa_small y (by omega))
      have HW := Lib.hid (fun s (hs : s.size ≤ 3) => writeString_any B b _ s wr hbr (by omega) (by omega))
      clear hx hn hle hzz hf
      go_wp2_with fail
      refine (HI.out _).mono ?_
      rintro e w1 ⟨rfl, rfl⟩
      go_wp2_with fail
      refine (HW.out _ (by rw [ByteArray.size_append, size_mk (Lib.decDigits y)]; have h2 : (⟨#[32]⟩ : ByteArray).size = 1 := rfl; omega)).mono ?_
      rintro e w2 ⟨rfl, hb2, hbw2, hok2⟩
      go_wp2_with fail
      go_roundw
      case rel =>
        refine ⟨k + 1, by omega, by go_num, ?_, hbw.trans hbw2, hok.trans hok2⟩
        rw [HN.out]
        simpa [numB] using hb2
      case measure => simp [intOf]; omega
    · obtain rfl : k = zs.length := by omega
      rw [List.take_of_length_le (Nat.le_refl _)] at hbr
      go_wp2_with fail
      go_end0
      exact ⟨rfl, hbr, hbw, hok⟩

def textE (n : Net) : ByteArray × Int := if validB n = false then (⟨#[]⟩, 1) else (⟨(textB n).toArray⟩, 0)
theorem lines_len (P : Int) (hP : P ≤ 40) (l : List Tr) (h : ∀ t ∈ l, trOk P t = true) : (l.flatMap lineB).length ≤ 400 * l.length := by
  induction l with
  | nil => simp
  | cons t l ih =>
    have a := ih (fun y hy => h y (by simp [hy]))
    have ht := h t (by simp)
    obtain ⟨pi, po⟩ := trPlaces ht
    have li := places_len pi
    have lo := places_len po
    have s1 := nums_len t.ins (fun z hz => by have := places_mem pi z hz; omega)
    have s2 := nums_len t.outs (fun z hz => by have := places_mem po z hz; omega)
    have hlab : (labelB t.label).length ≤ 40 := by
      unfold trOk labelOk at ht
      unfold labelB
      split
      · simp
      · rename_i h0
        simp only [Bool.and_eq_true, Bool.or_eq_true, decide_eq_true_eq] at ht
        rcases ht.1.1 with h' | h'
        · exact absurd h' h0
        · unfold isNameB at h'
          simp only [Bool.and_eq_true, decide_eq_true_eq] at h'
          have := h'.1.1.2
          rw [Array.length_toList]; exact this
    simp only [List.flatMap_cons, List.length_append, List.length_cons, lineB] at *
    simp only [List.length_nil] at *
    omega

theorem labelB_len {P : Int} {t : Tr} (ht : trOk P t = true) : (labelB t.label).length ≤ 40 := by
  unfold trOk labelOk at ht
  unfold labelB
  split
  · simp
  · rename_i h0
    simp only [Bool.and_eq_true, Bool.or_eq_true, decide_eq_true_eq] at ht
    rcases ht.1.1 with h' | h'
    · exact absurd h' h0
    · unfold isNameB at h'
      simp only [Bool.and_eq_true, decide_eq_true_eq] at h'
      have := h'.1.1.2
      rw [Array.length_toList]; exact this
theorem Bld.lt {w : World} {B b : Nat} {l : List UInt8} (h : Bld w B b l) : b < w.heap.size := by
  have key : ∀ p, Lib.BuilderAtF 68 5 B b p (Lib.byteCells l) w → b < w.heap.size := by
    rintro p ⟨_, v, hbk, _⟩
    rcases Nat.lt_or_ge b w.heap.size with h' | h'
    · exact h'
    · rw [Array.getElem?_eq_none h'] at hbk; cases hbk
  rcases h with h | h
  · exact key _ h
  · exact key _ h

set_option maxHeartbeats 2000000 in
set_option maxRecDepth 100000 in
theorem text_any (n : Net) (v : Value) (w : World) (h : IsNet (Lt w.heap.size) w v n) :
    Calls Tryd.prog 13 #[v] w fun e w' => e = .returned (.tuple #[.string (textE n).1, .int .i64 (textE n).2]) ∧ Below w.heap.size w w' := by
  have h0 := h
  obtain ⟨tv, rfl, hp, hs, hkk, ht⟩ := h
  obtain ⟨A, c, rfl, h1, h2, ht⟩ := ht.open_
  go_enter Tryd.func13, Tryd.ntmps13
  go_wp2_with fail
  have hb := bone w (Obj.cells #[Value.int IntKind.i64 n.places, Value.slice A n.trans.length c, Value.int IntKind.i64 n.source, Value.int IntKind.i64 n.sink] 24)
  refine (valid_any n _ _ (h0.now hb)).mono ?_
  rintro e w1 ⟨rfl, hb1⟩
  have hbw := bthen hb hb1
  have hB1 := (Blk.new w 24 #[.int .i64 n.places, .slice A n.trans.length c, .int .i64 n.source, .int .i64 n.sink]).now hb1
  generalize hq : validB n = q
  have HV := Lib.hid hq
  clear hq
  cases q
  · have HE : Hid (textE n = (⟨#[]⟩, 1)) := by show textE n = _; unfold textE; rw [HV.out]; rfl
    go_wp2_with fail
    go_ret2
    rw [HE.out]
    exact ⟨rfl, hbw⟩
  have HE : Hid (textE n = (⟨(textB n).toArray⟩, 0)) := by show textE n = _; unfold textE; rw [HV.out]; rfl
  obtain ⟨v1, v2, v3, v4⟩ := validOk HV.out
  obtain ⟨⟨s1, s2⟩, k1, k2⟩ := insideOk HV.out
  have HV4 := Lib.hid v4
  clear v4
  have hlt1 := hB1.lt
  have hb2 := bone w1 (.cells #[.pointer none, .slice none 0 0] 68)
  have hB2 := hB1.now hb2
  have hbld := Bld.new (B := w1.heap.size) (Blk.new w1 68 #[.pointer none, .slice none 0 0]) (Nat.le_refl _)
  obtain ⟨q0, q1, q2, q3⟩ := hB2.c4
  obtain ⟨P, hP⟩ := Int.eq_ofNat_of_zero_le (show 0 ≤ n.places by omega)
  obtain ⟨S, hS⟩ := Int.eq_ofNat_of_zero_le s1
  obtain ⟨K, hK⟩ := Int.eq_ofNat_of_zero_le k1
  have d1 := dec_len P (by omega)
  have d2 := dec_len S (by omega)
  have d3 := dec_len K (by omega)
  have HH : Hid (headB n = [110, 101, 116, 32] ++ Lib.decDigits P ++ [32, 115, 111, 117, 114, 99, 101, 32] ++ Lib.decDigits S ++ [32, 115, 105, 110, 107, 32] ++ Lib.decDigits K ++ [10]) := by
    show headB n = _; unfold headB numB; rw [hP, hS, hK]; rfl
  rw [hP] at q0
  rw [hS] at q2
  rw [hK] at q3
  have HI1 := Lib.hid (Tryd.strconv_Itoa_small P (by omega))
  have HI2 := Lib.hid (Tryd.strconv_Itoa_small S (by omega))
  have HI3 := Lib.hid (Tryd.strconv_Itoa_small K (by omega))
  clear hb hb1
  go_wp2_with fail
  generalize w1.alloc (Obj.cells #[Value.pointer none, Value.slice none 0 0] 68) = wb at *
  have l1 : ¬ 9223372036854775807 < 4 + (Lib.decDigits P).length := by omega
  have l2 : ¬ 9223372036854775807 < 4 + (Lib.decDigits P).length + 8 := by omega
  have l3 : ¬ 9223372036854775807 < 4 + (Lib.decDigits P).length + 8 + (Lib.decDigits S).length := by omega
  have l4 : ¬ 9223372036854775807 < 4 + (Lib.decDigits P).length + 8 + (Lib.decDigits S).length + 6 := by omega
  have l5 : ¬ 9223372036854775807 < 4 + (Lib.decDigits P).length + 8 + (Lib.decDigits S).length + 6 + (Lib.decDigits K).length := by omega
  have l6 : ¬ 9223372036854775807 < 4 + (Lib.decDigits P).length + 8 + (Lib.decDigits S).length + 6 + (Lib.decDigits K).length + 1 := by omega
  refine wp_region_still_tail 15 (by kernel_rfl) (by kernel_rfl) ?_
  simp only [List.take_succ_cons, List.take_zero, List.drop_succ_cons, List.drop_zero]
  repeat still_step
  still_call (HI1.out _)
  repeat still_step
  still_call (HI2.out _)
  repeat still_step
  still_call (HI3.out _)
  repeat still_step
  refine wpStill_nil ?_
  change wpList _ _ _ _ _ wb.drew
  have hbd : Bld wb.drew w1.heap.size w1.heap.size [] := hbld
  have HW := Lib.hid (fun s (hs : s.size ≤ 1000) => writeString_any w1.heap.size w1.heap.size _ s wb.drew hbd (by simp only [List.length_nil]; omega) hb2.size)
  clear l1 l2 l3 l4 l5 l6
  go_wp2_with fail
  refine (HW.out _ (by
    simp only [ByteArray.size_append, size_mk (Lib.decDigits P), size_mk (Lib.decDigits S), size_mk (Lib.decDigits K)]
    have e1 : (⟨#[110, 101, 116, 32]⟩ : ByteArray).size = 4 := rfl
    have e2 : (⟨#[32, 115, 111, 117, 114, 99, 101, 32]⟩ : ByteArray).size = 8 := rfl
    have e3 : (⟨#[32, 115, 105, 110, 107, 32]⟩ : ByteArray).size = 6 := rfl
    have e4 : (⟨#[10]⟩ : ByteArray).size = 1 := rfl
    omega)).mono ?_
  rintro e w2 ⟨rfl, hbl2, hbw2, hok2⟩
  clear HW
  have hbl3 : Bld w2 w1.heap.size w1.heap.size (headB n) := by
    rw [HH.out]
    simpa using hbl2
  have hb12 : Below w1.heap.size w1 w2 := (hb2.drew).trans hbw2
  have hB3 := hB1.below hb12 hlt1
  have hhl : (headB n).length ≤ 40 := by
    rw [HH.out]; simp only [List.length_append, List.length_cons, List.length_nil]; omega
  clear hbl2 hbw2 hok2 hb2 hB2 q0 q1 q2 q3 hbld hbd HH HI1 HI2 HI3
  have eg : ∀ args w, (callFunc 32 args).run Tryd.prog w = .ok (.enter 32 args) w := enters_of Tryd.func32 (by kernel_rfl) rfl
  obtain ⟨r0, r1, r2, r3⟩ := hB3.c4
  go_wp2_with fail
  go_loopw [32] (fun i wr => ∃ k : Nat, k ≤ n.trans.length ∧ i = .int .i64 k ∧ Bld wr w1.heap.size w1.heap.size (headB n ++ (n.trans.take k).flatMap lineB) ∧ Below w1.heap.size w1 wr) (fun i _ => n.trans.length - (intOf i).toNat)
  case atStart => exact ⟨0, Nat.zero_le _, rfl, by simpa using hbl3, hb12⟩
  case round =>
    obtain ⟨k, hk, rfl, hbr, hbwr⟩ := hrel
    have hsz := hbwr.size
    by_cases hlt : k < n.trans.length
    · have hlen := lines_len n.places v2 (n.trans.take k) (fun t ht => HV4.out t (List.mem_of_mem_take ht))
      rw [List.length_take] at hlen
      obtain ⟨b, o, t, iv, ov, rfl, hD, hx, hl, hi, ho, c0, c1, c2⟩ := ((ht.now hbw).below hbwr (Nat.le_refl _)).at_ hlt
      obtain ⟨Ai, ci, rfl, i1, i2, hi⟩ := hi.open_
      obtain ⟨Ao, co, rfl, o1, o2, ho⟩ := ho.open_
      have htr := HV4.out t (List.mem_of_getElem? hx)
      obtain ⟨pi, po⟩ := trPlaces htr
      have li := places_len pi
      have lo := places_len po
      have hsi : Small t.ins := fun z hz => by have := places_mem pi z hz; omega
      have hso : Small t.outs := fun z hz => by have := places_mem po z hz; omega
      have ni := nums_len t.ins hsi
      have no := nums_len t.outs hso
      have hlb : (labelB t.label).length ≤ 40 := labelB_len htr
      have HN := Lib.hid (lines_snoc n.trans k t hx)
      have hT0 := Blk.new wr 30 #[.string t.label, .slice Ai t.ins.length ci, .slice Ao t.outs.length co]
      have hbr0 := hbr.now (bone wr (.cells #[.string t.label, .slice Ai t.ins.length ci, .slice Ao t.outs.length co] 30))
      have hi0 := hi.below (B' := w1.heap.size) ((bone wr (.cells #[.string t.label, .slice Ai t.ins.length ci, .slice Ao t.outs.length co] 30)).mono hsz) (Nat.le_refl _)
      have ho0 := ho.below (B' := w1.heap.size) ((bone wr (.cells #[.string t.label, .slice Ai t.ins.length ci, .slice Ao t.outs.length co] 30)).mono hsz) (Nat.le_refl _)
      have hb0 := hbwr.trans ((bone wr (.cells #[.string t.label, .slice Ai t.ins.length ci, .slice Ao t.outs.length co] 30)).mono hsz)
      have hwrl := hb0.size
      rw [World.size_alloc] at hwrl
      have hne : w1.heap.size ≠ wr.heap.size := by have := hbr.lt; omega
      have hl58 : ∀ s : ByteArray, (s ++ ⟨#[58]⟩ : ByteArray).size = s.size + 1 := fun s => by rw [ByteArray.size_append]; rfl
      have HL58 := Lib.hid hl58
      clear hl58 hx pi po
      generalize hpre : headB n ++ (n.trans.take k).flatMap lineB = pre at hbr0
      have HPRE := Lib.hid hpre
      have hprel : pre.length ≤ 100000 := by rw [← hpre, List.length_append]; omega
      clear hpre hbr hi ho
      have hlsz : t.label.size ≤ 40 := by
        have := hlb; unfold labelB at this
        split at this
        · omega
        · rw [Array.length_toList] at this; exact this
      by_cases hlab : t.label.toList = []
      · have HLB : Hid (labelB t.label = [95]) := by show labelB t.label = _; unfold labelB; rw [if_pos ((size_toList _).1 hlab)]
        have hlab2 : t.label.toList.isEmpty = true := by simpa using hlab
        go_wp2_with fail
        refine (writeString_any w1.heap.size w1.heap.size _ _ _ hbr0 (by have : (⟨#[95]⟩ ++ ⟨#[58]⟩ : ByteArray).size = 2 := rfl; omega) hb0.size).mono ?_
        rintro e w3 ⟨rfl, hbl3', hbw3, hok3⟩
        have hbl3 : Bld w3 w1.heap.size w1.heap.size (pre ++ (labelB t.label ++ [58])) := by rw [HLB.out]; exact hbl3'
        clear hbl3' hlab2
        clear hlab
        have hT3 := hT0.others hok3 (by intro e; injection e with e; exact hne e.symm) (by decide)
        obtain ⟨x0, x1, x2⟩ := hT3.c3
        have hi3 := hi0.below hbw3 (Nat.le_refl _)
        have ho3 := ho0.below hbw3 (Nat.le_refl _)
        have hb3 := hb0.trans hbw3
        have hs3 := hb3.size
        go_wp2_with fail
        refine (list_any _ t.ins w1.heap.size w1.heap.size _ w3 hsi hbl3 hs3 (by simp only [List.length_append, List.length_cons, List.length_nil]; omega) hi3).mono ?_
        rintro e w4 ⟨rfl, hbl4, hbw4, hok4⟩
        have hT4 := hT3.others hok4 (by intro e; injection e with e; exact hne e.symm) (by decide)
        have ho4 := ho3.below hbw4 (Nat.le_refl _)
        have hb4 := hb3.trans hbw4
        have hs4 := hb4.size
        clear x0 x1 x2 hT3 hi3 ho3 hT0
        go_wp2_with fail
        refine (writeString_any w1.heap.size w1.heap.size _ ⟨#[32, 45, 62]⟩ w4 hbl4 (by simp only [List.length_append, List.length_cons, List.length_nil]; have : (⟨#[32, 45, 62]⟩ : ByteArray).size = 3 := rfl; omega) hs4).mono ?_
        rintro e w5 ⟨rfl, hbl5, hbw5, hok5⟩
        have hT5 := hT4.others hok5 (by intro e; injection e with e; exact hne e.symm) (by decide)
        obtain ⟨x0, x1, x2⟩ := hT5.c3
        have ho5 := ho4.below hbw5 (Nat.le_refl _)
        have hb5 := hb4.trans hbw5
        have hs5 := hb5.size
        clear hT4 ho4
        go_wp2_with fail
        refine (list_any _ t.outs w1.heap.size w1.heap.size _ w5 hso hbl5 hs5 (by simp only [List.length_append, List.length_cons, List.length_nil]; omega) ho5).mono ?_
        rintro e w6 ⟨rfl, hbl6, hbw6, hok6⟩
        have hb6 := hb5.trans hbw6
        have hs6 := hb6.size
        clear x0 x1 x2 hT5 ho5
        go_wp2_with fail
        refine (writeString_any w1.heap.size w1.heap.size _ ⟨#[10]⟩ w6 hbl6 (by simp only [List.length_append, List.length_cons, List.length_nil]; have : (⟨#[10]⟩ : ByteArray).size = 1 := rfl; omega) hs6).mono ?_
        rintro e w7 ⟨rfl, hbl7, hbw7, hok7⟩
        go_wp2_with fail
        go_roundw
        case rel =>
          refine ⟨k + 1, by omega, by go_num, ?_, hb6.trans hbw7⟩
          rw [HN.out, ← List.append_assoc, HPRE.out]
          simpa [lineB] using hbl7
        case measure => simp [intOf]; omega
      · have HLB : Hid (labelB t.label = t.label.data.toList) := by show labelB t.label = _; unfold labelB; rw [if_neg (fun e => hlab ((size_toList _).2 e))]
        have hlab2 : t.label.toList.isEmpty = false := by simpa using hlab
        go_wp2_with fail
        refine (writeString_any w1.heap.size w1.heap.size _ _ _ hbr0 (by rw [HL58.out]; omega) hb0.size).mono ?_
        rintro e w3 ⟨rfl, hbl3', hbw3, hok3⟩
        have hbl3 : Bld w3 w1.heap.size w1.heap.size (pre ++ (labelB t.label ++ [58])) := by rw [HLB.out]; simpa using hbl3'
        clear hbl3' hlab2
        clear hlab
        have hT3 := hT0.others hok3 (by intro e; injection e with e; exact hne e.symm) (by decide)
        obtain ⟨x0, x1, x2⟩ := hT3.c3
        have hi3 := hi0.below hbw3 (Nat.le_refl _)
        have ho3 := ho0.below hbw3 (Nat.le_refl _)
        have hb3 := hb0.trans hbw3
        have hs3 := hb3.size
        go_wp2_with fail
        refine (list_any _ t.ins w1.heap.size w1.heap.size _ w3 hsi hbl3 hs3 (by simp only [List.length_append, List.length_cons, List.length_nil]; omega) hi3).mono ?_
        rintro e w4 ⟨rfl, hbl4, hbw4, hok4⟩
        have hT4 := hT3.others hok4 (by intro e; injection e with e; exact hne e.symm) (by decide)
        have ho4 := ho3.below hbw4 (Nat.le_refl _)
        have hb4 := hb3.trans hbw4
        have hs4 := hb4.size
        clear x0 x1 x2 hT3 hi3 ho3 hT0
        go_wp2_with fail
        refine (writeString_any w1.heap.size w1.heap.size _ ⟨#[32, 45, 62]⟩ w4 hbl4 (by simp only [List.length_append, List.length_cons, List.length_nil]; have : (⟨#[32, 45, 62]⟩ : ByteArray).size = 3 := rfl; omega) hs4).mono ?_
        rintro e w5 ⟨rfl, hbl5, hbw5, hok5⟩
        have hT5 := hT4.others hok5 (by intro e; injection e with e; exact hne e.symm) (by decide)
        obtain ⟨x0, x1, x2⟩ := hT5.c3
        have ho5 := ho4.below hbw5 (Nat.le_refl _)
        have hb5 := hb4.trans hbw5
        have hs5 := hb5.size
        clear hT4 ho4
        go_wp2_with fail
        refine (list_any _ t.outs w1.heap.size w1.heap.size _ w5 hso hbl5 hs5 (by simp only [List.length_append, List.length_cons, List.length_nil]; omega) ho5).mono ?_
        rintro e w6 ⟨rfl, hbl6, hbw6, hok6⟩
        have hb6 := hb5.trans hbw6
        have hs6 := hb6.size
        clear x0 x1 x2 hT5 ho5
        go_wp2_with fail
        refine (writeString_any w1.heap.size w1.heap.size _ ⟨#[10]⟩ w6 hbl6 (by simp only [List.length_append, List.length_cons, List.length_nil]; have : (⟨#[10]⟩ : ByteArray).size = 1 := rfl; omega) hs6).mono ?_
        rintro e w7 ⟨rfl, hbl7, hbw7, hok7⟩
        go_wp2_with fail
        go_roundw
        case rel =>
          refine ⟨k + 1, by omega, by go_num, ?_, hb6.trans hbw7⟩
          rw [HN.out, ← List.append_assoc, HPRE.out]
          simpa [lineB] using hbl7
        case measure => simp [intOf]; omega
    · obtain rfl : k = n.trans.length := by omega
      rw [List.take_of_length_le (Nat.le_refl _)] at hbr
      go_wp2_with fail
      refine (string_any _ _ _ _ hbr hsz).mono ?_
      rintro e w3 ⟨rfl, hbl3, hbw3, _⟩
      go_wp2_with fail
      go_ret2
      rw [HE.out]
      exact ⟨rfl, hbw.trans ((hbwr.trans hbw3).mono hbw.size)⟩
end Go.Proofs.YtlkkfkkhllijbaaDoor
