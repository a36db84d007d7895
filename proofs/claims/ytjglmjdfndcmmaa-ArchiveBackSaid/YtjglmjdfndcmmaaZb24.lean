/- Texts of this seat, merged. -/
import Derived.ProofKit
import Derived.Deep.Slices
import Derived.Deep.Fields
import Derived.Deep.Strs
import Derived.ChangeSame
import Derived.Lib.SmallJoins
import Derived.LaidMore
import Derived.OpenShut
import Derived.Stop.Joined
import Derived.Test.YtjglmjdfndcmmaaRows
import Derived.JoinedOf
import Derived.Handed
import Derived.Test.YtjglmjdfndcmmaaZb01
import Derived.Test.YtjglmjdfndcmmaaZb02
import Derived.Test.YtjglmjdfndcmmaaZb03
import Derived.Test.YtjglmjdfndcmmaaZb04
import Derived.Test.YtjglmjdfndcmmaaZb05
import Derived.Test.YtjglmjdfndcmmaaZb06
import Derived.Test.YtjglmjdfndcmmaaZb07
import Derived.Test.YtjglmjdfndcmmaaZb08
import Derived.Test.YtjglmjdfndcmmaaZb09
import Derived.Test.YtjglmjdfndcmmaaZb10
import Derived.Test.YtjglmjdfndcmmaaZb11
import Derived.Test.YtjglmjdfndcmmaaZb12
import Derived.Test.YtjglmjdfndcmmaaZb13
import Derived.Test.YtjglmjdfndcmmaaZb14
import Derived.Test.YtjglmjdfndcmmaaZb15
import Derived.Test.YtjglmjdfndcmmaaZb16
import Derived.Test.YtjglmjdfndcmmaaZb17
import Derived.Test.YtjglmjdfndcmmaaZb18
import Derived.Test.YtjglmjdfndcmmaaZb19
import Derived.Test.YtjglmjdfndcmmaaZb20
import Derived.Test.YtjglmjdfndcmmaaZb21
import Derived.Test.YtjglmjdfndcmmaaZb22
import Derived.Test.YtjglmjdfndcmmaaZb23
set_option linter.all false
set_option linter.all false
namespace Go.Proofs.Ytjglmjdfndcmmaa
open Go.RowKit
def YesB (w : World) (x : Ending) (w' : World) : Prop := x = .returned (.bool true) ∧ Below w.heap.size w w'
theorem open_pack {l x : List Ev} {k : Int} (hv : logB l = true) (hb : (arPack l).length ≤ 262144) (h : OpenSaid (arPack l) x k) : x = l ∧ k = 0 := by
  rcases h with ⟨h1, _⟩ | ⟨_, h2, _⟩ | ⟨_, _, _, h4⟩
  · omega
  · rcases h2 with h2 | h2
    · have : 4 ≤ (arPack l).length := by unfold arPack; rw [List.length_append, show (le4 (sumOf (arBody l))).length = 4 from rfl]; omega
      omega
    · exact absurd (arPack_sum l) h2
  · rcases h4 with ⟨h5, _, _, h6⟩ | ⟨_, _, h6⟩
    · exact ⟨h6 l hv rfl, h5⟩
    · exact absurd rfl (h6 l hv)
theorem stat_in {l : List UInt8} {x y : List Ev} {k n r : Int} (h : OpenSaid l x k) (hb : BlkSaid x k n y r) {e0 e1 e : Ev} (h0 : y[0]? = some e0) (h1 : y[y.length - 1]? = some e1) {i : Nat} (he : y[i]? = some e) : e0.time ≤ e.time ∧ e.time < e1.time + 1 ∧ e.act.data.toList ∈ setB (actsOf y) := by
  obtain ⟨-, -, hmono, -⟩ := blk_ok h hb
  have hi := (List.getElem?_eq_some_iff.1 he).1
  have hle : ∀ {a b : Nat} {u v : Ev}, y[a]? = some u → y[b]? = some v → a ≤ b → u.time ≤ v.time := fun {a b u v} ha hb' hab => by
    rcases Nat.eq_or_lt_of_le hab with rfl | hab
    · rw [ha] at hb'; injection hb' with hb'; rw [hb']; exact Int.le_refl _
    · have ha' := (List.getElem?_eq_some_iff.1 ha).1
      have hb'' := (List.getElem?_eq_some_iff.1 hb').1
      have h := List.pairwise_iff_getElem.1 hmono a b ha' hb'' hab
      rw [(List.getElem?_eq_some_iff.1 ha).2, (List.getElem?_eq_some_iff.1 hb').2] at h
      exact h
  refine ⟨hle h0 he (Nat.zero_le _), ?_, ?_⟩
  · have := hle he h1 (by omega)
    omega
  · rw [setB_mem]
    exact List.mem_map.2 ⟨e, List.mem_of_getElem? he, rfl⟩
theorem wpList_appendG {ops : Array Oper} {rest : List Oper} {o : Oper} {a : Act} {Q : Exit → Act → World → Prop} (hgd : o.guard = none) (s x : Operand)
    (ho : o.op = .call { callee := .builtin .append, args := #[s, x], argTypes := #[22, 22] }) (w : World) {base : Nat} {E : Nat → Prop} {xs ys : List Ev}
    (v : Value) (hs : a.eval s = v) (hown : OwnG w base v xs) (u : Value) (hx : a.eval x = u) (hu : SlEv E w u ys) (hn : xs.length + ys.length < 10000000) (hbase : base ≤ w.heap.size)
    (hE : ∀ b, E b → base ≤ b ∧ b < w.heap.size ∧ v.ownBlock ≠ some b)
    (h : ∀ v' w', OwnG w' base v' (xs ++ ys) → Chg (fun b => base ≤ b) w w' → wpList Try.prog ops Q rest (a.put o.dst v') w') : wpList Try.prog ops Q (o :: rest) a w :=
  wpList_plain hgd fun _ hK => wp_appendEvs s x ho w v hs hown u hx hu hn hbase hE fun v' w' h2 h3 => hK _ _ (h v' w' h2 h3)
theorem take_part (l : List Ev) (i : Nat) : l.take (100 * i) ++ part l i = l.take (100 * (i + 1)) := by
  unfold part
  rw [show 100 * (i + 1) = 100 * i + 100 by omega, List.take_add]
theorem take_parts (l : List Ev) : l.take (100 * nParts l) = l := List.take_of_length_le (by unfold nParts; omega)
theorem allG {w6 wo w' wE : World} {G : Nat} {u v : Value} {xs : List Ev} (hG : G < w6.heap.size) (hC : Chg (One G) w6 wo) (hb : Below wo.heap.size wo wE) (hC7 : Chg (fun b => w6.heap.size ≤ b) wE w') (hG7 : Blk w' G 24 #[u]) (hO7 : OwnG w' w6.heap.size v xs) :
    Blk (w'.setCell ⟨G, 0, none⟩ v) G 24 #[v] ∧ OwnG (w'.setCell ⟨G, 0, none⟩ v) w6.heap.size v xs ∧ Chg (One G) w6 (w'.setCell ⟨G, 0, none⟩ v) := by
  have hCa : Chg (One G) w6 wE := hC.trans (Chg.of_below hb)
  have hCb : Chg (One G) w6 w' := ⟨hC7.os.trans hCa.os, hC7.tape.trans hCa.tape, hC7.output.trans hCa.output, Nat.le_trans hCa.size hC7.size, fun i hi hn => (hC7.block i (Nat.lt_of_lt_of_le hi hCa.size) (by omega)).trans (hCa.block i hi hn)⟩
  exact ⟨hG7.set_ 0 _, hO7.chg (S := fun i => i = G) (Chg.set (S := fun i => i = G) Chg.refl (p := ⟨G, 0, none⟩) (.inr rfl) _) (fun b hb e => by omega), hCb.set (p := ⟨G, 0, none⟩) (.inr rfl) _⟩
set_option maxHeartbeats 4000000 in
set_option maxRecDepth 100000 in
theorem archiveBack_law (l : List Ev) (u : Value) (w : World) (h : IsLog (Lt w.heap.size) w u l) :
    Calls Try.prog 6 #[u] w (YesB w) := by
  have h0 := h
  obtain ⟨ev, rfl, hs⟩ := h
  obtain ⟨A, c, rfl, _, _, _⟩ := hs.open_
  have hb1 := bone w (.cells #[.slice A l.length c] 24)
  have hB1 := Blk.new w 24 #[.slice A l.length c]
  have HAW := Lib.hid awake_any
  have HL := Lib.hid (h0.now hb1)
  clear hs h0
  go_enter Try.func6, Try.ntmps6
  go_wp2_with fail
  (with_reducible refine (HAW.out _).mono ?_)
  rintro e w2 ⟨rfl, hb2⟩
  have hL2 := HL.out.now hb2
  have hb12 := hb1.trans (hb2.mono hb1.size)
  have hB2 := hB1.now hb2
  have hc2 := hB2.c1
  have HSM := Lib.hid (small_any l _ w2 hL2)
  go_wp2_with fail
  (with_reducible refine HSM.out.mono ?_)
  rintro e w3 ⟨⟨q, rfl⟩, hb3⟩
  have HL3 := Lib.hid (hL2.now hb3)
  have hb13 := hb12.trans (hb3.mono hb12.size)
  have hB3 := hB2.now hb3
  have hc3 := hB3.c1
  clear HSM hL2 hB2 hc2 hb2 hb3 hb12
  cases q
  · go_wp2_with fail
    (with_reducible refine (HAW.out _).mono ?_)
    rintro e w4 ⟨rfl, hb4⟩
    go_wp2_with fail
    go_ret
    exact ⟨rfl, hb13.trans (hb4.mono hb13.size)⟩
  clear HAW
  have hpk := packP_any l _ w3 HL3.out
  cases hv : logB l
  · have hE : packE l = ([], 1) := by unfold packE; rw [hv]; rfl
    rw [hE] at hpk
    have HPK := Lib.hid hpk
    clear hE hpk
    go_wp2_with fail
    (with_reducible refine HPK.out.mono ?_)
    rintro e w4 ⟨v4, rfl, hO4, hb4⟩
    dsimp only at hO4 ⊢
    obtain ⟨A4, c4, rfl⟩ := hO4.isSlice
    have hlv := logValid_any l _ w4 (HL3.out.now hb4)
    rw [hv] at hlv
    have HLV := Lib.hid hlv
    have hc4 := (hB3.now hb4).c1
    have hb14 := hb13.trans (hb4.mono hb13.size)
    clear hlv hO4
    go_wp2_with fail
    (with_reducible refine HLV.out.mono ?_)
    rintro e w5 ⟨rfl, hb5⟩
    go_wp2_with fail
    go_ret
    exact ⟨rfl, hb14.trans (hb5.mono hb14.size)⟩
  have HV := Lib.hid hv
  by_cases hbig : 262144 < (arPack l).length
  · have hE : packE l = ([], 5) := by unfold packE; rw [hv, if_pos rfl, if_pos hbig]
    rw [hE] at hpk
    have HPK := Lib.hid hpk
    clear hE hpk hbig
    go_wp2_with fail
    (with_reducible refine HPK.out.mono ?_)
    rintro e w4 ⟨v4, rfl, hO4, hb4⟩
    dsimp only at hO4 ⊢
    obtain ⟨A4, c4, rfl⟩ := hO4.isSlice
    have hlv := logValid_any l _ w4 (HL3.out.now hb4)
    rw [hv] at hlv
    have HLV := Lib.hid hlv
    have hc4 := (hB3.now hb4).c1
    have hb14 := hb13.trans (hb4.mono hb13.size)
    clear hlv hO4
    go_wp2_with fail
    (with_reducible refine HLV.out.mono ?_)
    rintro e w5 ⟨rfl, hb5⟩
    go_wp2_with fail
    go_ret
    exact ⟨rfl, hb14.trans (hb5.mono hb14.size)⟩
  have hE : packE l = (arPack l, 0) := by unfold packE; rw [hv, if_pos rfl, if_neg hbig]
  rw [hE] at hpk
  have HPK := Lib.hid hpk
  have HPA := Lib.hid (fun A c W hW => packP_any l (.agg #[.slice A l.length c]) W hW)
  have HOP := Lib.hid (fun (x : List Ev) (k : Int) (h : OpenSaid (arPack l) x k) => open_pack hv (by omega) h)
  have HPE := Lib.hid hE
  clear hE hpk hbig hv
  go_wp2_with fail
  (with_reducible refine HPK.out.mono ?_)
  rintro e w4 ⟨v4, rfl, hO4, hb4⟩
  dsimp only at hO4 ⊢
  obtain ⟨A4, c4, rfl⟩ := hO4.isSlice
  have hb14 := hb13.trans (hb4.mono hb13.size)
  have hB4 := hB3.now hb4
  have hc4 := hB4.c1
  have HL4 := Lib.hid (HL3.out.now hb4)
  have HS4 := Lib.hid hO4.slC
  have HO1 := Lib.hid (open_any _ _ w4 hO4.slC)
  have HB14 := Lib.hid hb14
  have HB4 := Lib.hid hB4
  have hl2000 := (log_parts HV.out).1
  have hnp20 : nParts l ≤ 20 := by unfold nParts; omega
  clear hO4 hb4 hB3 hc3 hb13 HPK hb14 hB4
  generalize arPack l = L at *
  go_wp2_with fail
  (with_reducible refine HO1.out.mono ?_)
  rintro e w5 ⟨ev5, x, k, rfl, hx, hsaid, hb5⟩
  obtain ⟨hxl, hk0⟩ := HOP.out x k hsaid
  rw [hxl] at hx
  subst hk0
  have hx := hx.fresh
  obtain ⟨A5, c5, rfl, _, _, _⟩ := hx.open_
  have hb6 := bone w5 (.cells #[.slice A5 l.length c5] 24)
  have hB6 := Blk.new w5 24 #[.slice A5 l.length c5]
  have hX6 : IsLog (Lt (w5.alloc (.cells #[.slice A5 l.length c5] 24)).heap.size) (w5.alloc (.cells #[.slice A5 l.length c5] 24)) (.agg #[.slice A5 l.length c5]) l := ⟨_, rfl, SlEv.now hx hb6⟩
  have hpk := HPA.out A5 c5 _ hX6
  rw [HPE.out] at hpk
  have HPK := Lib.hid hpk
  have hb46 := hb5.trans (hb6.mono hb5.size)
  clear hx hsaid hxl hpk HO1
  go_upto_region 7 with fail
  obtain ⟨w6, hw6⟩ : ∃ w6, w5.alloc (.cells #[.slice A5 l.length c5] 24) = w6 := ⟨_, rfl⟩
  rw [hw6] at hb46 hB6 hX6 HPK ⊢
  have hc6 := hB6.c1
  have HX6 := Lib.hid hX6
  clear hw6 hb5 hb6 hX6
  go_wp2_with fail
  (with_reducible refine HPK.out.mono ?_)
  rintro e w7 ⟨v7, rfl, hO7, hb7⟩
  dsimp only at hO7 ⊢
  obtain ⟨A7, c7, rfl⟩ := hO7.isSlice
  have hb47 := hb46.trans (hb7.mono hb46.size)
  have HBK := Lib.hid (blocks_any _ L w7 (HS4.out.now hb47))
  go_wp2_with fail
  (with_reducible refine HBK.out.mono ?_)
  rintro e w8 ⟨x8, k8, hsaid8, rfl, hb8⟩
  obtain ⟨hx8, hk8⟩ := HOP.out x8 k8 hsaid8
  rw [hx8, hk8]
  have hb48 := hb47.trans (hb8.mono hb47.size)
  have hB8 := (hB6.now hb7).now hb8
  have hc8 := hB8.c1
  have hL8 := (HB4.out.now hb48)
  have hd8 := hL8.c1
  have hb68 := hb7.trans (hb8.mono hb7.size)
  have HSA := Lib.hid (logSame_any l _ _ w8 (HX6.out.now hb68) (HL4.out.now hb48))
  have HEQ := Lib.hid (fun W (hW : Below w8.heap.size w8 W) => equal_any _ _ L L W ((hO7.slC.now hb8).now hW) ((HS4.out.now hb48).now hW))
  have HB48 := Lib.hid hb48
  clear hsaid8 hx8 hk8 hc6 hb46 hb7 hb8 hb47 hB6 hO7 HBK HPK
  have hw1 : IntKind.i64.wrap ((l.length : Int) + 99) = (l.length : Int) + 99 := i64wrap (by omega)
  have hw2 : IntKind.i64.wrap (((l.length : Int) + 99) / 100) = ((l.length : Int) + 99) / 100 := i64wrap (by omega)
  have hnp : ((l.length : Int) + 99) / 100 = (nParts l : Int) := by unfold nParts; omega
  rw [hnp] at hw2
  go_wp2_with fail
  (with_reducible refine HSA.out.mono ?_)
  rintro e w9 ⟨rfl, hb9⟩
  have heq := HEQ.out w9 hb9
  simp only [decide_true] at heq
  have HE9 := Lib.hid heq
  have hd9 := (hL8.now hb9).c1
  clear heq
  go_wp2_with fail
  (with_reducible refine HE9.out.mono ?_)
  rintro e w10 ⟨rfl, rfl⟩
  go_upto_region 12 with fail
  have hbA := bone w10 (.cells #[.slice none 0 0] 24)
  have hb410 := HB48.out.trans (hb9.mono HB48.out.size)
  have hb4A := hb410.trans (hbA.mono hb410.size)
  have hw4G := hb410.size
  have hGA := Blk.new w10 24 #[.slice none 0 0]
  obtain ⟨wA, hwA⟩ : ∃ wA, w10.alloc (.cells #[.slice none 0 0] 24) = wA := ⟨_, rfl⟩
  obtain ⟨G, hGG⟩ : ∃ G, w10.heap.size = G := ⟨_, rfl⟩
  rw [hwA] at hb4A hGA ⊢
  rw [hGG] at hGA hw4G ⊢
  have hGl := hGA.lt
  have HGA := Lib.hid hGA
  have HB4A := Lib.hid hb4A
  have hl4 := HB4.out.lt
  clear hwA hGG hbA hb410 hb4A hGA hB8 hc8 hL8 hd8 hb68 hb9 HE9 hd9 HEQ HSA hb1 hB1 HL HL3 HPA HB48 HX6 hc4 hw1 hw2 hnp
  go_wp2_with fail
  go_loopw [93] (fun iv wr => ∃ (i : Nat) (ov : Value), iv = .int .i64 (i : Int) ∧ i ≤ nParts l ∧ Hid (Blk wr G 24 #[ov]) ∧ Hid (OwnG wr wA.heap.size ov (l.take (100 * i))) ∧ Hid (Chg (One G) wA wr)) (fun iv _ => nParts l - (intOf iv).toNat)
  case atStart => exact ⟨0, .slice none 0 0, rfl, Nat.zero_le _, HGA, Lib.hid (by simpa using OwnG.nil), Lib.hid Chg.refl⟩
  case round =>
    obtain ⟨i, ov, rfl, hi, HG, HO, HC⟩ := hrel
    obtain ⟨wo, rfl⟩ : ∃ wo, wo = wr := ⟨wr, rfl⟩
    obtain ⟨xs, hxs⟩ : ∃ xs, l.take (100 * i) = xs := ⟨_, rfl⟩
    rw [hxs] at HO
    have HXS := Lib.hid hxs
    have hxl : xs.length ≤ 2000 := by rw [← hxs, List.length_take]; omega
    clear hxs
    obtain ⟨Av, cv, rfl⟩ := OwnG.isSlice HO.out
    have hszo := HC.out.size
    have hbo : Below G wA wo := HC.out.below (Nat.le_of_lt hGl) (fun j hj e => by unfold One at e; omega)
    have h4o : Below w4.heap.size w4 wo := HB4A.out.trans (hbo.mono hw4G)
    have hLo := HB4.out.now h4o
    have HLo := Lib.hid (HL4.out.now h4o)
    have HSo := Lib.hid (HS4.out.now h4o)
    have HB14o := Lib.hid (HB14.out.trans (h4o.mono HB14.out.size))
    by_cases hlt : i < nParts l
    · have z0 : (i : Int) < (nParts l : Int) := by omega
      have HBL := Lib.hid (blockAt_any _ L (i : Int) wo HSo.out)
      clear hLo
      go_wp2_with fail
      (with_reducible refine HBL.out.mono ?_)
      rintro e w5 ⟨x5, k5, ev5, y, r5, hsaid5, hblk5, rfl, hy5, hb5⟩
      obtain ⟨hx5, hk5⟩ := HOP.out x5 k5 hsaid5
      rw [hx5, hk5] at hblk5 hsaid5
      have hblI : BlkSaid l 0 (i : Int) (part l i) 0 := .inr (.inr ⟨rfl, i, rfl, hlt, rfl, rfl⟩)
      obtain ⟨hyp, hr5⟩ := hblI.unique hblk5
      subst hr5
      obtain ⟨hy100, hok, _, hpos⟩ := blk_ok hsaid5 hblk5
      have hypos := hpos rfl
      have HSI := Lib.hid (fun (e0 e1 e : Ev) (j : Nat) (h0 : y[0]? = some e0) (h1 : y[y.length - 1]? = some e1) (he : y[j]? = some e) => stat_in hsaid5 hblk5 h0 h1 he)
      have HYP := Lib.hid hyp
      have HOK := Lib.hid hok
      obtain ⟨A5, c5, rfl, _, _, hy5⟩ := hy5.open_
      have hb6 := bone w5 (.cells #[.slice A5 y.length c5] 24)
      have hT6 := Blk.new w5 24 #[.slice A5 y.length c5]
      have hbo6 := hb5.trans (hb6.mono hb5.size)
      have HST := Lib.hid (stats_any _ L (i : Int) _ (HSo.out.now hbo6))
      have HY5 := Lib.hid hy5
      clear hy5 hpos hx5 hk5 hyp hok HBL
      go_upto_region 16 with fail
      obtain ⟨w6, hw6⟩ : ∃ w6, w5.alloc (.cells #[.slice A5 y.length c5] 24) = w6 := ⟨_, rfl⟩
      obtain ⟨T, hTT⟩ : ∃ T, w5.heap.size = T := ⟨_, rfl⟩
      rw [hw6] at hb6 hT6 hbo6 HST ⊢
      rw [hTT] at hT6 ⊢
      clear hw6
      go_wp2_with fail
      (with_reducible refine HST.out.mono ?_)
      rintro e w7 ⟨x7, k7, y7, r7, av, a, cc, hsaid7, hblk7, rfl, hst, hb7⟩
      obtain ⟨hx7, hk7⟩ := HOP.out x7 k7 hsaid7
      rw [hx7, hk7] at hblk7
      obtain ⟨hy7, hr7⟩ := hblk5.unique hblk7
      subst hr7
      rw [hy7] at hst
      have hst : OwnS w7 w6.heap.size av (setB (actsOf y)) ∧ ∃ e0 e1, y[0]? = some e0 ∧ y[y.length - 1]? = some e1 ∧ a = e0.time ∧ cc = e1.time + 1 := by
        rcases hst with ⟨h, _⟩ | ⟨_, h⟩
        · exact absurd rfl h
        · exact h
      obtain ⟨hav, e0, e1, he0, he1, rfl, rfl⟩ := hst
      have hb8 := bone w7 (.cells #[.int .i64 e0.time, .int .i64 (e1.time + 1)] 50)
      have hS8 := Blk.new w7 50 #[.int .i64 e0.time, .int .i64 (e1.time + 1)]
      have hb68 := hb7.trans (hb8.mono hb7.size)
      have hT8 := hT6.now hb68
      have hacts : ∀ s ∈ setB (actsOf y), s.length ≤ maxLen := fun s hs => by
        rw [setB_mem] at hs
        obtain ⟨v, hv, rfl⟩ := List.mem_map.1 hs
        have := (name_size (HOK.out v hv).act).2
        rw [size_eq]
        unfold maxLen
        omega
      have hsl := (hav.now hb8).slS hacts
      have HIS := Lib.hid (isSorted_asc av _ _ hsl (setB_asc _))
      have HSL := Lib.hid hsl
      have hbo8 := hbo6.trans (hb68.mono hbo6.size)
      obtain ⟨Aa, ca, rfl⟩ := OwnS.isSlice hav
      have HE01 := Lib.hid (And.intro he0 he1)
      clear hsaid7 hblk7 hx7 hk7 hy7 hav he0 he1 hst hsl hsaid5 hblk5 hblI HST
      go_upto_region 17 with fail
      obtain ⟨w8, hw8⟩ : ∃ w8, w7.alloc (.cells #[.int .i64 e0.time, .int .i64 (e1.time + 1)] 50) = w8 := ⟨_, rfl⟩
      obtain ⟨S, hSS⟩ : ∃ S, w7.heap.size = S := ⟨_, rfl⟩
      rw [hw8] at hb8 hS8 hb68 hT8 HIS HSL hbo8 ⊢
      rw [hSS] at hS8 ⊢
      clear hw8
      have t8 := hT8.c1
      have z1 : ((y.length : Int) == 0) = false := by simp; intro h; rw [h] at hypos; simp at hypos
      have z2 : (y.length == 0) = false := by simp; intro h; rw [h] at hypos; simp at hypos
      go_wp2_with fail
      (with_reducible refine HIS.out.mono ?_)
      rintro e w9 ⟨rfl, hb9⟩
      have h58 := hb6.trans (hb68.mono hb6.size)
      have h59 := h58.trans (hb9.mono h58.size)
      have hbo9 := hbo8.trans (hb9.mono hbo8.size)
      have HT9 := Lib.hid (hT8.now hb9)
      have HS9 := Lib.hid (hS8.now hb9)
      have HSL9 := Lib.hid (HSL.out.now hb9)
      have H59 := Lib.hid h59
      have HBO9 := Lib.hid hbo9
      have t9 := HT9.out.c1
      clear h58 h59 hbo9 hb6 hb68 hb9 hb5 hbo6 hT6 hb7 hb8 hS8 hT8 hbo8 t8 HIS HSL hbo h4o hTT hSS
      go_wp2_with fail
      go_loopw [129] (fun jv wr => ∃ j : Nat, jv = .int .i64 (j : Int) ∧ j ≤ y.length ∧ Hid (Below w9.heap.size w9 wr)) (fun jv _ => y.length - (intOf jv).toNat)
      case atStart => exact ⟨0, rfl, Nat.zero_le _, Lib.hid (Below.refl _ _)⟩
      case round =>
        obtain ⟨j, rfl, hj, HJ⟩ := hrel
        have h5r := H59.out.trans (HJ.out.mono H59.out.size)
        have hTr := HT9.out.now HJ.out
        have hSr := HS9.out.now HJ.out
        by_cases hjt : j < y.length
        · obtain ⟨b, o, e, dv, rfl, hD, hx, hff, hdv, f0, f1, f2, f3, f4, f5⟩ := SlEv.at_ (HY5.out.fresh.now h5r) hjt
          obtain ⟨hin0, hin1, hin2⟩ := HSI.out e0 e1 e j HE01.out.1 HE01.out.2 hx
          have hbE := bone wr (.cells #[.string e.cas, .string e.act, .string e.res, .int .i64 e.life, .int .i64 e.time, dv] 57)
          have hEE := Blk.new wr 57 #[.string e.cas, .string e.act, .string e.res, .int .i64 e.life, .int .i64 e.time, dv]
          have hSE := hSr.now hbE
          have HCT := Lib.hid (contains_str _ (setB (actsOf y)) e.act _ ((HSL9.out.now HJ.out).now hbE) hin2)
          have HBE := Lib.hid (HJ.out.trans (hbE.mono HJ.out.size))
          obtain ⟨Ad, cd, rfl, _, _, _⟩ := hdv.open_
          clear hx hff hdv hin2
          go_upto_region 22 with fail
          obtain ⟨wE, hwE⟩ : ∃ wE, wr.alloc (.cells #[.string e.cas, .string e.act, .string e.res, .int .i64 e.life, .int .i64 e.time, .slice Ad e.data.length cd] 57) = wE := ⟨_, rfl⟩
          rw [hwE] at hEE hSE HCT HBE ⊢
          obtain ⟨p0, p1, p2, p3, p4, p5⟩ := hEE.c6
          obtain ⟨q0, q1⟩ := hSE.c2
          have z3 : ¬ e.time < e0.time := by omega
          have z4 : ¬ e1.time + 1 ≤ e.time := by omega
          clear hwE hbE hEE hSE f0 f1 f2 f3 f4 f5 hSr hTr
          go_wp2_with fail
          (with_reducible refine HCT.out.mono ?_)
          rintro _ w11 ⟨rfl, rfl⟩
          go_wp2_with fail
          go_roundw
          case rel => exact ⟨j + 1, by go_num, by omega, HBE⟩
          case measure => simp [intOf]; omega
        · obtain rfl : j = y.length := by omega
          have z3 : ¬ (y.length : Int) < (y.length : Int) := by omega
          have hor := HBO9.out.trans (HJ.out.mono HBO9.out.size)
          have hOr := OwnG.chg HO.out (S := fun _ => False) (Chg.of_below hor) (fun _ _ => id)
          have hYr : SlEv (fun b => wo.heap.size ≤ b ∧ b < w5.heap.size) wr (.slice A5 y.length c5) y := Sl.keep HY5.out REv.kept (fun _ => id) (fun b hb => h5r.block b hb.2)
          have hEr : ∀ b, (wo.heap.size ≤ b ∧ b < w5.heap.size) → wA.heap.size ≤ b ∧ b < wr.heap.size ∧ (Value.slice Av xs.length cv).ownBlock ≠ some b := fun b hb => by
            have h := own_apart (w5 := w5) HO.out hszo b hb
            exact ⟨h.1, Nat.lt_of_lt_of_le h.2.1 h5r.size, h.2.2⟩
          have hGr := HG.out.now hor
          have g1 := hGr.c1
          have tr := hTr.c1
          have hbase : wA.heap.size ≤ wr.heap.size := Nat.le_trans hszo hor.size
          have hln : xs.length + y.length < 10000000 := by omega
          have HOR := Lib.hid hor
          clear hor hSr
          go_wp2_with (at_builtin; refine wpList_appendG rfl (.tmp 154) (.tmp 156) rfl _ _ rfl hOr _ rfl hYr hln hbase hEr ?_; intro v' w' hO7 hC7; obtain ⟨A7, c7, rfl⟩ := OwnG.isSlice hO7; rw [List.length_append] at hO7; have hG7 := hGr.chg hC7 (by omega); have g7 := hG7.c1; have f7 := hG7.frozen 0)
          have HF := Lib.hid (allG hGl HC.out HOR.out hC7 hG7 hO7)
          clear hC7 hG7 hO7 hOr hYr hEr hGr
          go_wp2_with fail
          go_roundw
          case rel => exact ⟨i + 1, _, by go_num, by omega, Lib.hid HF.out.1, Lib.hid (by rw [← take_part, HXS.out, ← HYP.out]; exact HF.out.2.1), Lib.hid HF.out.2.2⟩
          case measure => simp [intOf]; omega
    · obtain rfl : i = nParts l := by omega
      have z0 : ¬ (nParts l : Int) < (nParts l : Int) := by omega
      have hxl2 : xs = l := by rw [← HXS.out]; exact take_parts l
      have g1 := HG.out.c1
      have l1 := hLo.c1
      have hlog : IsLog (Lt wo.heap.size) wo (.agg #[.slice Av xs.length cv]) l := ⟨_, rfl, by
        have h := HO.out.sl
        rw [hxl2] at h ⊢
        exact Sl.keep h REv.kept (fun b hb => hb.2) (Same.refl _ _)⟩
      have HSM := Lib.hid (logSame_any l _ _ wo hlog HLo.out)
      clear hxl2 hlog hLo
      go_wp2_with fail
      (with_reducible refine HSM.out.mono ?_)
      rintro e w5 ⟨rfl, hb5⟩
      go_wp2_with fail
      go_ret
      exact ⟨rfl, HB14o.out.trans (hb5.mono HB14o.out.size)⟩
end Go.Proofs.Ytjglmjdfndcmmaa

set_option linter.all false
namespace Go.Proofs.Ytjglmjdfndcmmaa
open Go.ChangeShapes Go.WideShapes Go.RowKit Go.Deep
theorem add_lit' (b o n j : Nat) : ((⟨b, o, none⟩ : Addr).add n).add j = ⟨b, o + n + j, none⟩ := by
  rw [add_add']; unfold Addr.add
  by_cases h : n + j = 0
  · have h1 : n = 0 := by omega
    have h2 : j = 0 := by omega
    subst h1 h2; rfl
  · rw [if_neg h]; simp [Nat.add_assoc]
theorem cell_spot {w : World} {a : Addr} {u : Value} (h : w.cell? a = some u) : a = ⟨a.block, a.off, none⟩ ∧ a.block < w.heap.size := by
  obtain ⟨b, o, s⟩ := a
  unfold World.cell? at h
  cases s with
  | none =>
    refine ⟨rfl, ?_⟩
    rcases Nat.lt_or_ge b w.heap.size with h' | h'
    · exact h'
    · simp [Array.getElem?_eq_none h'] at h
  | some s => split at h <;> simp at h
section
variable {H : Type} {enc : TypeId × Value → H} {P : Program} {w : World} {base : Nat} {spare : Nat → Bool} {held : Bool}
theorem Sl.of_trod {α : Type} [Inhabited α] {size : Nat} {R : ElemR α} {t e : TypeId} {fuel : Nat} {v : Value} {x : DataW H × List MemPlace} (ht : P.underlying t = some (.slice e)) (hsz : P.cellsOf e = size) (hs0 : 0 < size)
    (hR : ∀ (fuel' : Nat) (cs : List Value) (y : DataW H × List MemPlace), DataW.trod enc P w base spare held fuel' e cs = some y → ∃ z, R (Lt w.heap.size) w z cs)
    (h : DataW.trod enc P w base spare held fuel t [v] = some x) : ∃ xs, Sl size R (Lt w.heap.size) w v xs := by
  rcases open_slice ht h with ⟨hv, _⟩ | ⟨a, len, cap, m, n, D, Pl, hv, _, hl, hm, hmm, _, hi⟩
  · injection hv with hv; subst hv; exact ⟨[], Sl.none_⟩
  · injection hv with hv
    subst hv
    have hlm : len ≤ m := by rw [hmm]; split <;> omega
    have key : ∀ i, ∃ z : α, i < len → ∃ cs : List Value, cs.length = size ∧ R (Lt w.heap.size) w z cs ∧ ∀ j, j < size → w.cell? ((a.add (i * size)).add j) = cs[j]? := by
      intro i
      by_cases hlt : i < len
      · obtain ⟨cs', hc, htr⟩ := hi i (by omega)
        rw [hsz] at hc
        obtain ⟨z, hz⟩ := hR _ _ _ htr
        obtain ⟨_, hcl, hat⟩ := World.cells?_some hc
        exact ⟨z, fun _ => ⟨cs', hcl, hz, hat⟩⟩
      · exact ⟨default, fun h' => absurd h' hlt⟩
    refine ⟨(List.range len).map fun i => Classical.choose (key i), some a, cap, by simp, by simpa using hl, hm, fun i z hz => ?_⟩
    rw [List.getElem?_map] at hz
    have hlt : i < len := by
      rcases Nat.lt_or_ge i len with h' | h'
      · exact h'
      · rw [List.getElem?_eq_none (by simpa using h')] at hz; simp at hz
    rw [List.getElem?_range hlt] at hz
    injection hz with hz
    obtain ⟨cs, hcl, hr, hat⟩ := Classical.choose_spec (key i) hlt
    obtain ⟨cs0, hcl0, _, hat0⟩ := Classical.choose_spec (key 0) (by omega)
    have h00 := hat0 0 hs0
    have hc0 : cs0[0]? = some (cs0[0]'(by omega)) := List.getElem?_eq_getElem (by omega)
    rw [hc0] at h00
    have ha0 : (a.add (0 * size)).add 0 = a := by simp [Addr.add]
    rw [ha0] at h00
    obtain ⟨ha, hblk⟩ := cell_spot h00
    replace hz : Classical.choose (key i) = z := hz
    rw [hz] at hr
    refine ⟨a.block, a.off, cs, by rw [← ha], hblk, hcl, hr, fun j u hu => ?_⟩
    have hj : j < size := by
      rcases Nat.lt_or_ge j cs.length with h' | h'
      · omega
      · rw [List.getElem?_eq_none h'] at hu; cases hu
    have := hat j hj
    rw [ha, add_lit'] at this
    rw [this, hu]
theorem fit_of_wf {n : Int} (h : (Lit.int .i64 n).wf = true) : Fit n := by
  have h' : decide ((-9223372036854775808 : Int) ≤ n) = true ∧ decide (n ≤ (9223372036854775807 : Int)) = true := by
    rw [← Bool.and_eq_true]; exact h
  unfold Fit
  simpa using h'
theorem SlI.of_trod {t e : TypeId} {fuel : Nat} {v : Value} {x : DataW H × List MemPlace} (ht : P.underlying t = some (.slice e)) (he : P.underlying e = some (.int .i64)) (hc : P.cellsOf e = 1)
    (h : DataW.trod enc P w base spare held fuel t [v] = some x) : ∃ zs, SlI (Lt w.heap.size) w v zs :=
  Sl.of_trod ht hc (by omega) (fun _ cs y hy => by
    obtain ⟨k, e1, e2, e3⟩ := DataW.trod_int he hy
    exact ⟨k, e1, fit_of_wf e3⟩) h
theorem SlS.of_trod {t e : TypeId} {fuel : Nat} {v : Value} {x : DataW H × List MemPlace} (ht : P.underlying t = some (.slice e)) (he : P.underlying e = some .string) (hc : P.cellsOf e = 1)
    (h : DataW.trod enc P w base spare held fuel t [v] = some x) : ∃ zs, SlS (Lt w.heap.size) w v zs :=
  Sl.of_trod ht hc (by omega) (fun _ cs y hy => by
    obtain ⟨k, e1, e2, e3⟩ := DataW.trod_string he hy
    exact ⟨k, e1, e3⟩) h
theorem post_of_below {f : Func} {s : ChangeSpec} {apart fresh handsOn again : Bool} {W W' : World} {args : Array Value} {v : Value} {ds gs : List (DataW H)} {before pa pv : List MemPlace}
    (hW : DataW.Whole enc P f.params.toList s.vars apart W args.toList ds gs before)
    (hres : ∀ (b : Nat) (sp : Nat → Bool) (hd : Bool), DataW.TrodAll enc P W' b sp hd f.resultTypes.toList (v.resultList f.resultTypes.size) (s.fn H (ds ++ gs)).results [])
    (hargs : ∀ sp : Nat → Bool, (∀ p ∈ before, sp p.block = true) → DataW.TrodAll enc P W' 0 sp true f.params.toList args.toList (s.fn H (ds ++ gs)).args pa)
    (hvars : ∀ sp : Nat → Bool, (∀ p ∈ before, sp p.block = true) → DataW.TrodVars enc P W' sp s.vars (s.fn H (ds ++ gs)).vars pv)
    (hps : before = pa ++ pv) (hb : Below W.heap.size W W')
    (hok : ∀ (j : Nat) (t : TypeId) (r : Value), f.resultTypes[j]? = some t → (v.resultList f.resultTypes.size)[j]? = some r → Value.okWide P W' .any 0 t r) :
    s.post enc P f apart fresh handsOn again W args v W' := by
  have hlt : ∀ p ∈ before, p.block < W.heap.size := fun p hp => hW.lt p hp
  have hold : ∀ p ∈ before, (fun b => decide (b < W.heap.size)) p.block = true := fun p hp => by simpa using hlt p hp
  refine ⟨ds, gs, before, [], pa, pv, hW, hres _ _ _, hargs _ hold, hvars _ hold, World.keptBut_mono (fun p hp => ⟨hp, ?_⟩) (hb.frame (· ∈ before)), fun _ => ?_⟩
  · rw [hps, List.mem_append] at hp
    exact Or.inr hp
  · obtain ⟨_, _, _, _, _, hz, hn⟩ := hW
    refine ⟨hok, _, _, ([] ++ pa) ++ pv, ⟨[] ++ pa, pv, trodAll_append (hargs _ (fun _ _ => rfl)) (hres _ _ _), hvars _ (fun _ _ => rfl), rfl, ?_, ?_⟩, ?_⟩
    · intro b off hp
      have hin : MemPlace.cell b off ∈ before := by rw [hps]; simpa using hp
      rw [hb.frozen (hlt _ hin)]
      exact hz b off hin
    · intro ha
      have := hn ha
      rw [hps] at this
      simpa using this
    · intro p hp _
      rw [hps]
      simpa using hp
end
end Go.Proofs.Ytjglmjdfndcmmaa

set_option linter.all false
namespace Go.Proofs.Ytjglmjdfndcmmaa
open Go.ChangeShapes Go.WideShapes Go.ChangeAt Go.RowKit Go.Deep
theorem own : ownKnob Try.prog.godebug = none := by kernel_rfl
theorem laidOut : laidOutB Try.prog = true := by kernel_rfl
theorem stays {H : Type} {enc : TypeId × Value → H} {t : TypeId} (hr : Try.prog.readableRec t = true) (hrow : t < Try.prog.types.size) {W W' : World} {v : Value} {d : DataW H} {ps : List MemPlace} {sp : Nat → Bool}
    (h : DataW.Trod enc Try.prog W 0 (fun _ => true) true t v d ps) (hb : Below W.heap.size W W') (hlt : ∀ x ∈ ps, x.block < W.heap.size) (hsp : ∀ x ∈ ps, sp x.block = true) : DataW.Trod enc Try.prog W' 0 sp true t v d ps :=
  WideElems.Trod_stays laidOut hr hrow h (fun x hx => hb.same (hlt x hx)) hsp
theorem readLog : Try.prog.readableRec 24 = true := by kernel_rfl
theorem rowLog : 24 < Try.prog.types.size := of_decide_eq_true (by kernel_rfl)
theorem cellsInt : Try.prog.cellsOf 3 = 1 := by kernel_rfl
theorem cellsStr : Try.prog.cellsOf 9 = 1 := by kernel_rfl
theorem cellsVal : Try.prog.cellsOf 62 = 3 := by kernel_rfl
theorem cellsFld : Try.prog.cellsOf 64 = 4 := by kernel_rfl
theorem cellsFlds : Try.prog.cellsOf 55 = 1 := by kernel_rfl
theorem cellsEv : Try.prog.cellsOf 57 = 6 := by kernel_rfl
theorem cellsEvs : Try.prog.cellsOf 22 = 1 := by kernel_rfl
theorem cellsLog : Try.prog.cellsOf 24 = 1 := by kernel_rfl
instance : Inhabited Fld := ⟨⟨emptyS, noV⟩⟩
instance : Inhabited Ev := ⟨⟨emptyS, emptyS, emptyS, 0, 0, []⟩⟩
section
variable {H : Type} {enc : TypeId × Value → H} {w : World} {base : Nat} {spare : Nat → Bool} {held : Bool}
theorem trod_struct6 {P : Program} {t : TypeId} {f0 f1 f2 f3 f4 f5 : Field} {fuel : Nat} {cs : List Value} {x : DataW H × List MemPlace} (ht : P.underlying t = some (.struct #[f0, f1, f2, f3, f4, f5])) (h : DataW.trod enc P w base spare held fuel t cs = some x) :
    ∃ y0 y1 y2 y3 y4 y5 n, cs.length = P.cellsOf t ∧ DataW.trod enc P w base spare held n f0.type ((cs.drop f0.offset).take (P.cellsOf f0.type)) = some y0 ∧
      DataW.trod enc P w base spare held n f1.type ((cs.drop f1.offset).take (P.cellsOf f1.type)) = some y1 ∧ DataW.trod enc P w base spare held n f2.type ((cs.drop f2.offset).take (P.cellsOf f2.type)) = some y2 ∧
      DataW.trod enc P w base spare held n f3.type ((cs.drop f3.offset).take (P.cellsOf f3.type)) = some y3 ∧ DataW.trod enc P w base spare held n f4.type ((cs.drop f4.offset).take (P.cellsOf f4.type)) = some y4 ∧
      DataW.trod enc P w base spare held n f5.type ((cs.drop f5.offset).take (P.cellsOf f5.type)) = some y5 := by
  obtain ⟨xs, n, _, rfl, hl, hlen, hf⟩ := DataW.trod_struct ht h
  match xs, hlen with
  | [y0, y1, y2, y3, y4, y5], _ => exact ⟨y0, y1, y2, y3, y4, y5, n, hl, by simpa using hf 0 f0 rfl, by simpa using hf 1 f1 rfl, by simpa using hf 2 f2 rfl, by simpa using hf 3 f3 rfl, by simpa using hf 4 f4 rfl, by simpa using hf 5 f5 rfl⟩
theorem trod_struct1 {P : Program} {t : TypeId} {f0 : Field} {fuel : Nat} {cs : List Value} {x : DataW H × List MemPlace} (ht : P.underlying t = some (.struct #[f0])) (h : DataW.trod enc P w base spare held fuel t cs = some x) :
    ∃ y0 n, cs.length = P.cellsOf t ∧ DataW.trod enc P w base spare held n f0.type ((cs.drop f0.offset).take (P.cellsOf f0.type)) = some y0 := by
  obtain ⟨xs, n, _, rfl, hl, hlen, hf⟩ := DataW.trod_struct ht h
  match xs, hlen with
  | [y0], _ => exact ⟨y0, n, hl, by simpa using hf 0 f0 rfl⟩
theorem trod_struct2 {P : Program} {t : TypeId} {f0 f1 : Field} {fuel : Nat} {cs : List Value} {x : DataW H × List MemPlace} (ht : P.underlying t = some (.struct #[f0, f1])) (h : DataW.trod enc P w base spare held fuel t cs = some x) :
    ∃ y0 y1 n, cs.length = P.cellsOf t ∧ DataW.trod enc P w base spare held n f0.type ((cs.drop f0.offset).take (P.cellsOf f0.type)) = some y0 ∧ DataW.trod enc P w base spare held n f1.type ((cs.drop f1.offset).take (P.cellsOf f1.type)) = some y1 := by
  obtain ⟨xs, n, _, rfl, hl, hlen, hf⟩ := DataW.trod_struct ht h
  match xs, hlen with
  | [y0, y1], _ => exact ⟨y0, y1, n, hl, by simpa using hf 0 f0 rfl, by simpa using hf 1 f1 rfl⟩
theorem trod_struct3r {P : Program} {t : TypeId} {f0 f1 f2 : Field} {fuel : Nat} {cs : List Value} {x : DataW H × List MemPlace} (ht : P.underlying t = some (.struct #[f0, f1, f2])) (h : DataW.trod enc P w base spare held fuel t cs = some x) :
    ∃ y0 y1 y2 n, cs.length = P.cellsOf t ∧ DataW.trod enc P w base spare held n f0.type ((cs.drop f0.offset).take (P.cellsOf f0.type)) = some y0 ∧ DataW.trod enc P w base spare held n f1.type ((cs.drop f1.offset).take (P.cellsOf f1.type)) = some y1 ∧
      DataW.trod enc P w base spare held n f2.type ((cs.drop f2.offset).take (P.cellsOf f2.type)) = some y2 := by
  obtain ⟨xs, n, _, rfl, hl, hlen, hf⟩ := DataW.trod_struct ht h
  match xs, hlen with
  | [y0, y1, y2], _ => exact ⟨y0, y1, y2, n, hl, by simpa using hf 0 f0 rfl, by simpa using hf 1 f1 rfl, by simpa using hf 2 f2 rfl⟩
set_option maxRecDepth 100000 in
theorem valCells_of (fuel : Nat) (cs : List Value) (y : DataW H × List MemPlace) (h : DataW.trod enc Try.prog w base spare held fuel 62 cs = some y) : ∃ v, RVal (Lt w.heap.size) w v cs := by
  obtain ⟨y0, y1, y2, n, hl, h0, h1, h2⟩ := trod_struct3r Try.underlying62 h
  rw [cellsVal] at hl
  match cs, hl with
  | [c0, c1, c2], _ =>
    simp only [cellsStr, cellsInt, List.drop_zero, List.take_succ_cons, List.take_zero, List.drop_succ_cons] at h0 h1 h2
    obtain ⟨a, e0, _, w0⟩ := DataW.trod_int Try.underlying3 h0
    obtain ⟨b, e1, _, w1⟩ := DataW.trod_int Try.underlying3 h1
    obtain ⟨s, e2, _, hs⟩ := DataW.trod_string Try.underlying9 h2
    injection e0 with e0; injection e1 with e1; injection e2 with e2
    subst e0 e1 e2
    exact ⟨⟨a, b, s⟩, rfl, fit_of_wf w0, fit_of_wf w1, hs⟩
set_option maxRecDepth 100000 in
theorem fldCells_of (fuel : Nat) (cs : List Value) (y : DataW H × List MemPlace) (h : DataW.trod enc Try.prog w base spare held fuel 64 cs = some y) : ∃ v, RFld (Lt w.heap.size) w v cs := by
  obtain ⟨y0, y1, n, hl, h0, h1⟩ := trod_struct2 Try.underlying64 h
  rw [cellsFld] at hl
  match cs, hl with
  | [c0, c1, c2, c3], _ =>
    simp only [cellsStr, cellsVal, List.drop_zero, List.take_succ_cons, List.take_zero, List.drop_succ_cons] at h0 h1
    obtain ⟨s, e0, _, hs⟩ := DataW.trod_string Try.underlying9 h0
    obtain ⟨v, ev, hfv⟩ := valCells_of _ _ _ h1
    injection e0 with e0
    injection ev with e1 ev; injection ev with e2 ev; injection ev with e3 ev
    subst e0 e1 e2 e3
    exact ⟨⟨s, v⟩, rfl, hs, hfv⟩
set_option maxRecDepth 100000 in
theorem evCells_of (fuel : Nat) (cs : List Value) (y : DataW H × List MemPlace) (h : DataW.trod enc Try.prog w base spare held fuel 57 cs = some y) : ∃ v, REv (Lt w.heap.size) w v cs := by
  obtain ⟨y0, y1, y2, y3, y4, y5, n, hl, h0, h1, h2, h3, h4, h5⟩ := trod_struct6 Try.underlying57 h
  rw [cellsEv] at hl
  match cs, hl with
  | [c0, c1, c2, c3, c4, c5], _ =>
    simp only [cellsStr, cellsInt, cellsFlds, List.drop_zero, List.take_succ_cons, List.take_zero, List.drop_succ_cons] at h0 h1 h2 h3 h4 h5
    obtain ⟨s0, e0, _, hs0⟩ := DataW.trod_string Try.underlying9 h0
    obtain ⟨s1, e1, _, hs1⟩ := DataW.trod_string Try.underlying9 h1
    obtain ⟨s2, e2, _, hs2⟩ := DataW.trod_string Try.underlying9 h2
    obtain ⟨a, e3, _, w3⟩ := DataW.trod_int Try.underlying3 h3
    obtain ⟨b, e4, _, w4⟩ := DataW.trod_int Try.underlying3 h4
    obtain ⟨zs, hz⟩ := Sl.of_trod (R := RFld) (size := 4) Try.underlying55 cellsFld (by omega) fldCells_of h5
    injection e0 with e0; injection e1 with e1; injection e2 with e2; injection e3 with e3; injection e4 with e4
    subst e0 e1 e2 e3 e4
    exact ⟨⟨s0, s1, s2, a, b, zs⟩, c5, rfl, ⟨hs0, hs1, hs2, fit_of_wf w3, fit_of_wf w4⟩, hz⟩
set_option maxRecDepth 100000 in
theorem log_of {r : Go.Reach} {b0 : Nat} {v : Value} {d : DataW H} {p : List MemPlace} (hv : Value.okWide Try.prog w r b0 24 v) (h : DataW.Trod enc Try.prog w base spare held 24 v d p) : ∃ x : List Ev, IsLog (Lt w.heap.size) w v x := by
  obtain ⟨cs, rfl, hsz⟩ := okWide_struct Try.underlying24 hv
  rw [cellsLog] at hsz
  obtain ⟨l⟩ := cs
  match l, hsz with
  | [c0], _ =>
    obtain ⟨fuel, hf⟩ := h
    obtain ⟨y0, n, hl, h0⟩ := trod_struct1 Try.underlying24 hf
    simp only [Value.cells, cellsEvs, List.drop_zero, List.take_succ_cons, List.take_zero, List.drop_succ_cons] at h0
    obtain ⟨zs, hz⟩ := Sl.of_trod (R := REv) (size := 6) Try.underlying22 cellsEv (by omega) evCells_of h0
    exact ⟨zs, _, rfl, hz⟩
end
end Go.Proofs.Ytjglmjdfndcmmaa

set_option linter.all false
namespace Go.Proofs.Ytjglmjdfndcmmaa
open Go.ChangeShapes Go.WideShapes Go.ChangeAt Go.RowKit Go.Deep
section
variable {H : Type} {enc : TypeId × Value → H} {w : World} {base : Nat} {spare : Nat → Bool} {held : Bool}
end
end Go.Proofs.Ytjglmjdfndcmmaa
