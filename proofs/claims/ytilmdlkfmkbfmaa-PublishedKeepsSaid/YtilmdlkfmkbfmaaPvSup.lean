/- privacy.Suppress. -/
import Derived.Test.YtilmdlkfmkbfmaaPvSup2
import Derived.StillTailTactics
set_option linter.all false
namespace Go.Proofs.Ytilmdlkfmkbfmaa
open Go.RowKit Go.Maps Go.WideMaps

/-- What Suppress gives. -/
def SupGives (k : Int) (l : List Vr) (v : Value) (c : Int) (w' : World) : Prop :=
  (rightB l = false ∧ c = 1 ∧ v = .slice none 0 0) ∨
  (rightB l = true ∧ ¬ (1 ≤ k ∧ k ≤ 1048576) ∧ c = 2 ∧ v = .slice none 0 0) ∨
  (rightB l = true ∧ (1 ≤ k ∧ k ≤ 1048576) ∧ ∃ s', Run k 200 ⟨[], l⟩ s' ∧
    ((s'.out.any (fun x => decide (1048576 < x.n)) = true ∧ c = 5 ∧ v = .slice none 0 0) ∨
     (s'.out.any (fun x => decide (1048576 < x.n)) = false ∧ c = 0 ∧ ∃ ys, ys.Perm s'.out ∧ Ord ys ∧ SlVr (Lt w'.heap.size) w' v ys)))
def RetSup (k : Int) (l : List Vr) (w : World) (e : Ending) (w' : World) : Prop := ∃ v c, e = .returned (.tuple #[v, .int .i64 c]) ∧ Below w.heap.size w w' ∧ SupGives k l v c w'
set_option maxHeartbeats 8000000 in
set_option maxRecDepth 100000 in
theorem suppress_any (u : Value) (l : List Vr) (k : Int) (w : World) (hu : SlVr (Lt w.heap.size) w u l) (hn : l.length ≤ 1000000) (hkf : Fit k) :
    Calls Try.prog 9 #[u, .int .i64 k] w (RetSup k l w) := by
  have HV := Lib.hid (variants_any u l w hu hn)
  have HR := Lib.hid (fun v W h => right_any v l W h)
  have HE := Lib.hid (fun W => entryNumber_any k W)
  have HU := Lib.hid hu
  obtain ⟨A, c, rfl, h1, h2, _⟩ := hu.open_
  clear hu
  go_enter Try.func9, Try.ntmps9
  go_wp2_with fail
  (with_reducible refine HV.out.mono ?_)
  rintro e w1 ⟨v1, rfl, hO, hb1⟩
  have HR1 := Lib.hid (HR.out _ _ (hO.ownSl hb1))
  obtain ⟨Ao, co, rfl⟩ := hO.isSlice
  clear hO HV
  go_wp2_with fail
  (with_reducible refine HR1.out.mono ?_)
  rintro e w2 ⟨rfl, hb2⟩
  have HB := Lib.hid (hb1.trans (hb2.mono hb1.size))
  clear hb1 hb2 HR1 HR
  obtain ⟨rb, hrb⟩ : ∃ rb, rightB l = rb := ⟨_, rfl⟩
  have HRB := Lib.hid hrb
  rw [hrb]
  clear hrb
  cases rb
  · go_wp2_with fail
    go_ret2
    exact ⟨_, _, rfl, HB.out, .inl ⟨HRB.out, rfl, rfl⟩⟩
  go_wp2_with fail
  (with_reducible refine (HE.out _).mono ?_)
  rintro e w' ⟨rfl, rfl⟩
  obtain ⟨kb, hkb⟩ : ∃ kb, (decide (1 ≤ k) && decide (k ≤ 1048576)) = kb := ⟨_, rfl⟩
  have HKB := Lib.hid hkb
  rw [hkb]
  clear hkb HE
  cases kb
  · go_wp2_with fail
    go_ret2
    refine ⟨_, _, rfl, HB.out, .inr (.inl ⟨HRB.out, fun h => ?_, rfl, rfl⟩)⟩
    have := HKB.out
    simp [h.1, h.2] at this
  have hkk : 1 ≤ k ∧ k ≤ 1048576 := by have := HKB.out; simpa using this
  have HKK := Lib.hid hkk
  have HOK := Lib.hid (right_ok HRB.out)
  obtain ⟨w0, rfl⟩ : ∃ w0, w0 = w' := ⟨_, rfl⟩
  have HBw := Lib.hid HB.out.size
  have hmk := make_maps
  have hM0 := made_ws w0 w.heap.size
  have hb3 := bone (w0.alloc (.cells (madeCells #[.map none] 201) 60)) (.cells #[.slice (some ⟨w0.heap.size, 0, none⟩) 201 201] 59)
  have hb03 := (bone w0 (.cells (madeCells #[.map none] 201) 60)).trans (hb3.mono (by simp))
  have hQ3 := Blk.new (w0.alloc (.cells (madeCells #[.map none] 201) 60)) 59 #[.slice (some ⟨w0.heap.size, 0, none⟩) 201 201]
  have hsz1 : (w0.alloc (.cells (madeCells #[.map none] 201) 60)).heap.size = w0.heap.size + 1 := by simp
  rw [hsz1] at hQ3
  have hM3 := hM0.now hb3 (by rw [hsz1]; have := HBw.out; omega)
  have HSB := Lib.hid (show SupB w0 w.heap.size w0.heap.size (w0.heap.size + 1) 0 [] [] (.slice none 0 0) (fun _ => none) _ from ⟨⟨_, fun _ => Nat.le_refl _, hM3⟩, OwnV.nil, hQ3, hb03⟩)
  clear HKB hkk hkf hM0 hb3 hb03 hQ3 hsz1 hM3
  go_upto_region 6 with fail
  obtain ⟨w3, hw3⟩ : ∃ w3, (w0.alloc (.cells (madeCells #[.map none] 201) 60)).alloc (.cells #[.slice (some ⟨w0.heap.size, 0, none⟩) 201 201] 59) = w3 := ⟨_, rfl⟩
  rw [hw3] at HSB ⊢
  obtain ⟨g, hgg⟩ : ∃ g, w0.heap.size = g := ⟨_, rfl⟩
  have HG := Lib.hid hgg
  rw [hgg] at HSB ⊢
  clear hw3 hgg hmk
  have HBG : Hid (w.heap.size ≤ g) := Lib.hid (by rw [← HG.out]; exact HBw.out)
  obtain ⟨A2, c2, hsl, g1, g2, hU⟩ := HU.out.open_
  injection hsl with e1 e2 e3
  subst e1 e3
  have HU := Lib.hid hU
  clear hU e2 g1 g2
  go_wp2_with fail
  go_loopw [27] (fun iv wr => ∃ (i : Nat) (bl : Nat → Option Nat), iv = .int .i64 (i : Int) ∧ i ≤ l.length ∧ Hid (SupB w0 w.heap.size g (g + 1) i (l.take i) [] (.slice none 0 0) bl wr)) (fun iv _ => l.length - (intOf iv).toNat)
  case atStart => exact ⟨0, _, rfl, Nat.zero_le _, HSB⟩
  case round =>
    obtain ⟨i, bl, rfl, hi, HS⟩ := hrel
    by_cases hlt : i < l.length
    · have hgw : Below w.heap.size w wr := HB.out.trans (HS.out.below.mono HB.out.size)
      obtain ⟨b, o, x, sv, rfl, hD, hx, hf, hs, c0', c1'⟩ := HU.out.at_ hlt
      have c0 := (hgw.cell (p := ⟨b, o + i * 2, none⟩) hD).trans c0'
      have c1 := (hgw.cell (p := ⟨b, o + i * 2 + 1, none⟩) hD).trans c1'
      obtain ⟨As, cs, rfl, _, _, hs⟩ := hs.open_
      have HT := Lib.hid (take_next hx)
      obtain ⟨x1, x2, x3, x4⟩ := HOK.out.each x (List.mem_of_getElem? hx)
      have hb2 := bone wr (.cells #[.slice As x.acts.length cs, .int .i64 x.n] 30)
      have hT := Blk.new wr 30 #[.slice As x.acts.length cs, .int .i64 x.n]
      have hS2 := HS.out.now HBw.out hb2
      have HSV := Lib.hid (Sl.keep hs RStr.kept (fun b hb => hb) (fun b hb => (hgw.trans (hb2.mono hgw.size)).block b hb))
      have HXX := Lib.hid (And.intro x1 (And.intro x2 (And.intro x3 x4)))
      clear hx hs c0' c1' x1 x2 x3 x4
      go_upto_region 10 with fail
      obtain ⟨w4, hw4⟩ : ∃ w4, wr.alloc (.cells #[.slice As x.acts.length cs, .int .i64 x.n] 30) = w4 := ⟨_, rfl⟩
      obtain ⟨T, hTT⟩ : ∃ T, wr.heap.size = T := ⟨_, rfl⟩
      rw [hw4] at hT hb2 hS2 HSV ⊢
      rw [hTT] at hT ⊢
      obtain ⟨t0, t1⟩ := hT.c2
      obtain ⟨N, n1, n2⟩ := hS2.ws
      have hpos := take_pos HOK.out.pos i
      have hgood : ∀ x ∈ l.take i, Names x.acts := fun x hx => (HOK.out.each x (List.mem_of_mem_take hx)).2.2.2
      have HAD := Lib.hid (add_any (u := x.acts) (k := x.n) n2 (namesIn_of hpos hgood) (cnt_nonneg hpos) (by have := HXX.out.1; omega) HXX.out.2.2.2 HXX.out.2.1 (by
        have a1 := cnt_le hpos x.acts
        have a2 := tot_take HOK.out.pos i
        have a3 := HOK.out.tot
        have a4 := HXX.out.2.2.1
        omega) HSV.out HBG.out (Nat.le_trans HB.out.size hS2.below.size) (by have := n1 x.acts.length; have := HOK.out.len; unfold maxLen; omega) hS2.blk (by omega))
      have HS2 := Lib.hid hS2
      have HN := Lib.hid (And.intro n1 n2)
      clear hw4 hTT hb2 c0 c1 hgw hT n1 n2 hS2 hpos hgood
      go_wp2_with fail
      (with_reducible refine HAD.out.mono ?_)
      rintro e w5 ⟨rfl, bl', hr⟩
      have HS5 := Lib.hid (HS2.out.add HBw.out (Nat.le_of_eq HG.out) (by omega) (by have := HXX.out.1; omega) HN.out.1 HN.out.2 hr)
      clear hr
      go_wp2_with fail
      go_roundw
      case rel => exact ⟨i + 1, bl', by go_num, by omega, Lib.hid (by rw [HT.out]; exact HS5.out)⟩
      case measure => simp [intOf]; omega
    · obtain rfl : i = l.length := by omega
      have hS := HS.out
      rw [List.take_length] at hS
      have HS := Lib.hid hS
      clear hS
      have HI0 := Lib.hid (SupI.start (k := k) HOK.out)
      go_wp2_with fail
      have HS0 : Hid (SupB w0 w.heap.size g (g + 1) (300 * (202 - 201)) l [] (.slice none 0 0) bl wr) := Lib.hid (by
        obtain ⟨N, n1, n2⟩ := HS.out.ws
        exact ⟨⟨N, fun j => Nat.le_trans (n1 j) (by have := HOK.out.len; omega), n2⟩, HS.out.own, HS.out.blk, HS.out.below⟩)
      clear HS
      obtain ⟨w6, rfl⟩ : ∃ w6, w6 = wr := ⟨_, rfl⟩
      go_loopw [10, 11] (fun ov nv wr => ∃ (L : Nat) (z : Int) (s : St) (sv : Value) (bl : Nat → Option Nat), nv = .int .i64 z ∧ z = (L : Int) - 1 ∧ L ≤ 201 ∧ sv = ov ∧ Hid (SupI k l L s) ∧ Hid (SupB w0 w.heap.size g (g + 1) (300 * (202 - L)) s.B s.out sv bl wr)) (fun _ nv _ => (intOf nv + 1).toNat)
      case atStart => exact ⟨201, 200, ⟨[], l⟩, _, _, rfl, rfl, Nat.le_refl _, rfl, HI0, HS0⟩
      case round =>
        obtain ⟨L, z, s, ov, bl, rfl, hz, hL, rfl, HI, HS⟩ := hrel
        rcases L with _ | M
        · obtain rfl : z = -1 := by omega
          clear hz
          have hrun := HI.out.run s rfl
          have HS8 := Lib.hid (And.intro hrun (And.intro HI.out.ok.nodup (And.intro HI.out.many HI.out.short)))
          have hsl := HS.out.own.sl (fun b' (hb' : b' < w.heap.size) => Nat.lt_of_lt_of_le (Nat.lt_of_lt_of_le hb' HBw.out) HS.out.below.size)
          have HCF := Lib.hid (containsFuncEn 28 enters_sup2 ov s.out (fun x => decide (1048576 < x.n)) wr hsl (fun x sv W hs _ _ => sup2_any x sv W (by obtain ⟨A, c, e, _⟩ := hs; exact ⟨_, _, _, e⟩)))
          obtain ⟨Ao2, co2, rfl⟩ := HS.out.own.isSlice
          clear hrun hsl HI
          go_wp2_with fail
          (with_reducible refine HCF.out.mono ?_)
          rintro e w5 ⟨rfl, hb5⟩
          have HS5 := Lib.hid (HS.out.now HBw.out hb5)
          have hB5 := HB.out.trans (HS5.out.below.mono HB.out.size)
          have HB5 := Lib.hid hB5
          obtain ⟨an, han⟩ : ∃ an, (s.out.any fun x => decide (1048576 < x.n)) = an := ⟨_, rfl⟩
          have HAN := Lib.hid han
          rw [han]
          clear han HCF hb5 hB5 HS
          cases an
          · have HPB := Lib.hid (publication_any HS5.out.own HBw.out HS5.out.below.size HS8.out.2.1 (by have := HS8.out.2.2.1; omega) (fun x hx => by have := HS8.out.2.2.2 x hx; omega))
            go_wp2_with fail
            (with_reducible refine HPB.out.mono ?_)
            rintro e w6 ⟨v6, ys, rfl, hperm, hord, hsl, hb6⟩
            have HF := Lib.hid (show RetSup k l w (.returned (.tuple #[v6, .int .i64 0])) w6 from ⟨v6, 0, rfl, HB.out.trans ((HS5.out.below.trans hb6).mono HB.out.size), .inr (.inr ⟨HRB.out, HKK.out, s, HS8.out.1, .inr ⟨HAN.out, rfl, ys, hperm, hord, hsl⟩⟩)⟩)
            obtain ⟨A6, c6, rfl, _, _, _⟩ := hsl.open_
            clear hperm hord hsl hb6 HPB
            go_wp2_with fail
            go_ret2
            exact HF.out
          · go_wp2_with fail
            go_ret2
            exact ⟨_, 5, rfl, HB5.out, .inr (.inr ⟨HRB.out, HKK.out, s, HS8.out.1, .inl ⟨HAN.out, rfl, rfl⟩⟩)⟩
        · obtain rfl : z = (M : Int) := by omega
          clear hz
          have z0 : (0 : Int) ≤ (M : Int) := by omega
          have z1 : (M : Int) < 201 := by omega
          have hq := HS.out.blk.c1
          obtain ⟨N, n1, n2⟩ := HS.out.ws
          have hcell := n2.cell (show M < 201 by omega)
          have HN := Lib.hid n2
          clear n1 n2
          cases hbl : bl M with
          | none =>
            rw [hbl] at hcell
            have HBL := Lib.hid hbl
            clear hbl
            have hrn := fun W => run_range_nilMap (P := Try.prog) W 60 _ _ Try.underlying60
            have hnx := run_next_nilMap (P := Try.prog) wr 0 0 0 #[]
            have hS7 := HS.out.now HBw.out (bone wr (.mapIter none 0 #[] 0))
            have HNX := Lib.hid (HI.out.next (Lvl.start k M s) (fun u hu hp => absurd hp (HN.out.none M (by omega) HBL.out u hu)) (by omega))
            go_wp2_with fail
            obtain ⟨w7, hw7⟩ : ∃ w7, wr.alloc (.mapIter none 0 #[] 0) = w7 := ⟨_, rfl⟩
            rw [hw7] at hnx hS7 ⊢
            have HS7 := Lib.hid (show SupB w0 w.heap.size g (g + 1) (300 * (202 - M)) s.B s.out ov bl w7 by
              obtain ⟨N, n1, n2⟩ := hS7.ws
              exact ⟨⟨N, fun j => Nat.le_trans (n1 j) (by omega), n2⟩, hS7.own, hS7.blk, hS7.below⟩)
            clear hw7 hS7 hq hcell
            go_loopw [10] (fun ov7 wr7 => ov7 = ov ∧ wr7 = w7) (fun _ _ => 0)
            case atStart => exact ⟨rfl, rfl⟩
            case round =>
              obtain ⟨rfl, rfl⟩ := hrel
              go_wp2_with fail
              go_roundw
              case rel => exact ⟨M, (M : Int) - 1, s, _, bl, by go_num, rfl, by omega, rfl, HNX, HS7⟩
              case measure => simp [intOf]
          | some b =>
            rw [hbl] at hcell
            obtain ⟨hgb, n, hnN, D, hown, hism, hkeys, hvals⟩ := HN.out.map M b (by omega) hbl
            have HD : Hid (SupD M s w0 w.heap.size D) := Lib.hid ⟨hkeys, fun u hu hp => by
              obtain ⟨sv, k1, k2⟩ := hvals u hu hp
              exact ⟨sv, k1, Sl.keep k2 RStr.kept (fun _ => id) (fun b' hb' => (HS.out.below.block b' (Nat.lt_of_lt_of_le hb' HBw.out)).symm)⟩⟩
            have HBL := Lib.hid hbl
            clear hbl hgb hnN hism hkeys hvals
            go_wp2_with (at_range; refine wpList_range_own _ rfl _ 60 rfl 9 62 (string_keyed Try.underlying9) Try.underlying60 RH b n D rfl hown ?_; intro w7 hrg0 hg0 hs0)
            go_frame
            have hS7 := HS.out.now HBw.out (below_of_grown hg0 (Nat.le_refl _) (fun _ e => by cases e))
            have HSI0 : Hid (SupIn k M s w0 w.heap.size g (g + 1) b wr.heap.size n D s [] ov (has D) (size D) bl w7) := Lib.hid ⟨Lvl.start k M s, hS7, HBL.out, hrg0, Collected.start D, HS.out.below.size⟩
            obtain ⟨r, hr⟩ : ∃ r, wr.heap.size = r := ⟨_, rfl⟩
            rw [hr] at HSI0 ⊢
            clear hS7 hrg0 hg0 hs0 hr hq hcell hown
            go_loopw [10] (fun ov7 wr7 => ∃ (left : Lit → Bool) (ct : Nat) (si : St) (ps : List Wd) (sv : Value) (bl : Nat → Option Nat), sv = ov7 ∧ Hid (SupIn k M s w0 w.heap.size g (g + 1) b r n D si ps sv left ct bl wr7)) (fun _ wr7 => wr7.rangeLeft b r)
            case atStart => exact ⟨_, _, s, [], _, bl, rfl, HSI0⟩
            case round =>
              obtain ⟨left, ct, si, ps, ov, bl, rfl, HSI⟩ := hrel
              have hrg := HSI.out.rg
              go_wp2_with (at_next; refine wpList_next_ranges _ rfl _ rfl 9 (string_keyed Try.underlying9) RH encStr (fun v : Value => v) (fun key kl hk => by obtain ⟨x, hx, _⟩ := Maps.keyOf_str Try.underlying9 hk; exact ⟨x, hx⟩) (fun v y _ => ⟨v, rfl⟩) b r n _ _ _ rfl hrg ?_ ?_)
              · intro hc0 hl0
                have HF := Lib.hid (HI.out.next HSI.out.lvl (HSI.out.full HD.out HI.out.good hl0) (by omega))
                have HS7 := Lib.hid (show SupB w0 w.heap.size g (g + 1) (300 * (202 - M)) si.B si.out ov bl wr by
                  obtain ⟨N, n1, n2⟩ := HSI.out.base.ws
                  have := (HI.out.mid HSI.out.lvl).2.2.2.2
                  exact ⟨⟨N, fun j => Nat.le_trans (n1 j) (by omega), n2⟩, HSI.out.base.own, HSI.out.base.blk, HSI.out.base.below⟩)
                clear hrg hl0
                go_wp2_with fail
                go_roundw
                case rel => exact ⟨M, (M : Int) - 1, si, _, bl, by go_num, rfl, by omega, rfl, HF, HS7⟩
                case measure => simp [intOf]
              · intro x cv kl yd yp w8 ct2 hkey hlk hv hat hrg2 hlt2 hg2 hs2 hen
                obtain ⟨x', ex, rfl, _⟩ := Maps.keyOf_str Try.underlying9 hkey
                obtain rfl : x = x' := encStr_inj ex
                obtain ⟨u, usv, hu, hp, hx, hnew, rfl, hus⟩ := HSI.out.got HD.out hlk hv hat
                have hS8 := HSI.out.next HBw.out hrg2 hg2
                obtain ⟨Au, cu, rfl, hcu1, hcu2, hus⟩ := hus.open_
                rw [hu] at hus hen
                have hus0 := hus
                rw [show (u.length ≤ cu) = (M ≤ cu) by rw [hu]] at hcu1
                unfold entV at hen
                have hb9 := bone w8 (.cells #[.slice Au M cu, .int .i64 (cnt s.B u)] 62)
                have hT9 := Blk.new w8 62 #[.slice Au M cu, .int .i64 (cnt s.B u)]
                have hS9 := hS8.now HBw.out hb9
                have hrg9 := hrg2.alloc (.cells #[.slice Au M cu, .int .i64 (cnt s.B u)] 62)
                have hcl := HI.out.cnt_le HKK.out.1 hu
                have HCO := Lib.hid (HI.out.mid HSI.out.lvl)
                obtain ⟨q1, hq1⟩ : ∃ q1, cnt s.B u = q1 := ⟨_, rfl⟩
                have HQ := Lib.hid hq1
                have HST := Lib.hid (And.intro hu (And.intro hp (And.intro hx hnew)))
                rw [hq1] at hb9 hT9 hS9 hrg9 hcl hp hen
                have HAT := Lib.hid (And.intro hlk hat)
                have hsv : SlS (Lt w.heap.size) (w8.alloc (.cells #[.slice Au M cu, .int .i64 q1] 62)) (.slice Au M cu) u := Sl.keep hus RStr.kept (fun _ => id) (fun b' hb' => hS9.below.block b' (Nat.lt_of_lt_of_le hb' HBw.out))
                have hfit : Fit q1 := by unfold Fit; omega
                clear hq1 hlk hat hv hkey ex hx hnew hrg2 hg2 hs2 hS8 hrg hu hus hus0
                go_upto_region 19 with fail
                obtain ⟨w9, hw9⟩ : ∃ w9, w8.alloc (.cells #[.slice Au M cu, .int .i64 q1] 62) = w9 := ⟨_, rfl⟩
                obtain ⟨T, hTT⟩ : ∃ T, w8.heap.size = T := ⟨_, rfl⟩
                rw [hw9] at hT9 hS9 hrg9 hsv ⊢
                rw [hTT] at hT9 ⊢
                clear hw9 hTT hb9 hen
                obtain ⟨t0, t1⟩ := hT9.c2
                by_cases hk2 : k ≤ q1
                · have HP : Hid (∀ v' w', OwnV 62 w' w0.heap.size (Lt w.heap.size) v' (si.out ++ [⟨u, q1⟩]) → w9.grownBy w' ov.ownBlock → SupIn k M s w0 w.heap.size g (g + 1) b r n D ⟨si.out ++ [⟨u, q1⟩], si.B⟩ (ps ++ [u]) v' (fun z => left z && !z.sameKey (.string x)) ct2 bl w') := Lib.hid fun v' w' ho hg => by
                    obtain rfl := HQ.out
                    exact HSI.out.push HBw.out HST.out.1 HST.out.2.1 HST.out.2.2.1 HST.out.2.2.2 hk2 HAT.out.1 HAT.out.2 hS9 hrg9 ho hg
                  have hol : si.out.length < 10000000 := by have := HCO.out.2.2.2.1; omega
                  have hown := hS9.own
                  have hsz := hS9.below.size
                  have hDD : ∀ b', Lt w.heap.size b' → b' < w0.heap.size := fun b' hb' => Nat.lt_of_lt_of_le hb' HBw.out
                  obtain ⟨Ao2, co2, rfl⟩ := hown.isSlice
                  clear hrg9 hS9
                  go_wp2_with (at_builtin; refine wpList_pushV appEnts rfl (.tmp 56) (.tmp 58) rfl w9 ⟨u, q1⟩ _ si.out hfit hsv _ rfl hown rfl hol hsz hDD ?_; intro v' w10 hO hg; have HSN := Lib.hid (HP.out v' w10 hO hg); clear hO hg)
                  go_roundw
                  case rel => exact ⟨_, ct2, _, _, _, bl, rfl, HSN⟩
                  case measure => rw [HSN.out.rg.left_eq, HSI.out.rg.left_eq]; exact hlt2
                · have hk3 : ¬ k ≤ q1 := hk2
                  by_cases hM0 : 0 < M
                  · have y0 : (0 : Int) < (M : Int) := by omega
                    go_upto_region 22 with fail
                    have y1 : IntKind.i64.wrap ((M : Int) - 1) = (M : Int) - 1 := i64wrap (by omega)
                    have y2 : (1 : Int) ≤ (M : Int) := by omega
                    have y3 : (M : Int) - 1 ≤ (cu : Int) := by omega
                    have y4 : ((M : Int) - 1).toNat = M - 1 := by omega
                    go_still_tail 8, (by kernel_rfl)
                    change wpList _ _ _ _ _ w9.drew
                    have hd9 : Below w9.heap.size w9 w9.drew := (Below.refl _ _).drew
                    have hS10 := hS9.now HBw.out hd9
                    have hrg10 := ranges_same (w' := w9.drew) hrg9 rfl rfl
                    have hsv10 : SlS (Lt w.heap.size) w9.drew (.slice Au (M - 1) cu) u.dropLast := by
                      have h := Sl.take_ (k := M - 1) hsv (by rw [HST.out.1]; omega)
                      have e : u.dropLast = u.take (M - 1) := by rw [List.dropLast_eq_take, HST.out.1]
                      rw [e]
                      exact h
                    obtain ⟨N, n1, n2⟩ := hS10.ws
                    have hgd := HCO.out.1
                    have HNM := namesIn_of HI.out.good.pos HI.out.good.names u HST.out.2.1
                    have hdl : u.dropLast.length = M - 1 := by rw [List.length_dropLast, HST.out.1]
                    have HAD := Lib.hid (add_any (u := u.dropLast) (k := q1) n2 (namesIn_of hgd.pos hgd.names) (cnt_nonneg hgd.pos) (by omega) (fun a ha => HNM a ((List.dropLast_sublist u).subset ha)) (by omega) (by
                      have a1 := HI.out.fall_le HSI.out.lvl HKK.out.1 (u := u.dropLast) (by omega)
                      omega) hsv10 HBG.out (Nat.le_trans HBw.out hS10.below.size) (by have a1 := n1 u.dropLast.length; have a2 := HCO.out.2.2.2.2; unfold maxLen; omega) hS10.blk (by omega))
                    have HFL : Hid (∀ bl' w', RetAdd g w.heap.size N si.B bl bl' u.dropLast q1 w9.drew w' → SupIn k M s w0 w.heap.size g (g + 1) b r n D ⟨si.out, si.B ++ [⟨u.dropLast, q1⟩]⟩ (ps ++ [u]) ov (fun z => left z && !z.sameKey (.string x)) ct2 bl' w') := Lib.hid fun bl' w' hr => by
                      obtain rfl := HQ.out
                      exact HSI.out.fall HBw.out (Nat.le_of_eq HG.out) (by omega) HST.out.1 HST.out.2.1 HST.out.2.2.1 HST.out.2.2.2 hk2 hM0 (by omega) HAT.out.1 HAT.out.2 hS10 hrg10 n1 n2 hr
                    clear hd9 hS10 hS9 hrg9 hrg10 hsv10 n1 n2 hgd HNM hdl hsv
                    go_wp2_with fail
                    (with_reducible refine HAD.out.mono ?_)
                    rintro e w11 ⟨rfl, bl', hr⟩
                    have HSN := Lib.hid (HFL.out bl' w11 hr)
                    clear hr
                    go_wp2_with fail
                    go_roundw
                    case rel => exact ⟨_, ct2, _, _, _, bl', rfl, HSN⟩
                    case measure => rw [HSN.out.rg.left_eq, HSI.out.rg.left_eq]; exact hlt2
                  · have y0 : ¬ (0 : Int) < (M : Int) := by omega
                    have HSN := Lib.hid (HSI.out.lose HST.out.1 HST.out.2.1 HST.out.2.2.1 HST.out.2.2.2 (by rw [HQ.out]; exact hk2) hM0 HAT.out.1 HAT.out.2 hS9 hrg9)
                    clear hrg9 hS9
                    go_wp2_with fail
                    go_roundw
                    case rel => exact ⟨_, ct2, _, _, _, bl, rfl, HSN⟩
                    case measure => rw [HSN.out.rg.left_eq, HSI.out.rg.left_eq]; exact hlt2
end Go.Proofs.Ytilmdlkfmkbfmaa
