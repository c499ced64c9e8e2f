/-
  The law on CountWords.
-/
import Derived.Test.YtlfmcdobiojdlaaCount
import Derived.Test.YtlfmcdobiojdlaaSpecValid
import Derived.Test.YtlfmcdobiojdlaaExactSamePlainWalk
import Derived.Deep.RegionWith
import Derived.Deep.CutRange
import Derived.RegionTactic
import Derived.BigRegion
namespace Go.Proofs.Ytlfmcdobiojdlaa.fnExactCountWords
open Go.RowKit Go.Proofs.Fl Go.Proofs.Ytlfmcdobiojdlaa.Num
open Go.Proofs.Ytlfmcdobiojdlaa.fnExactSamePlain (plainAt_step plainAt_keep)
set_option linter.unusedVariables false
set_option linter.unusedSimpArgs false
def RetIB (a : Int) (b : Bool) (w : World) (e : Ending) (w' : World) : Prop := e = .returned (.tuple #[.int .i64 a, .bool b]) ∧ Below w.heap.size w w'
set_option maxHeartbeats 3200000 in
theorem spec_yes (s l : Nat) (A : Option Addr) (n c : Nat) (B : Option Addr) (m d : Nat) (xs : List Int) (bs : List Bool) (hx : xs.length = n) (hb : bs.length = m) (hn : n ≤ 1048576) (hm : m ≤ 1048576) (hv : validP s l n xs m = true)
    (t : Nat) (ht : t ≤ 12) (w : World) (ha : Rd w w.heap.size A (i64s xs)) (hbs : Rd w w.heap.size B (bools bs)) :
    Calls Try.prog 26 #[.agg #[.int .i64 (s : Int), .int .i64 (l : Int), .slice A n c, .slice B m d], .int .i64 (t : Int)] w (RetIB (tot bs (cnt xs s l t) s) true w) := by
  have hp := plainOk hv
  have hs1 : 1 ≤ s ∧ s ≤ 64 := by have := hp.s; omega
  have hl1 : 1 ≤ l ∧ l ≤ 4 := by have := hp.l; omega
  have HMS := hid (show m = s by have := hp.m; omega)
  obtain ⟨i0, hi0, hz0, hz1, hz2⟩ := info_parts toInt64S_info
  have Hz := hid (toList_madeCells_one (Value.int .i64 0) s)
  have Hmul := hid (Nat.mul_one s)
  have HX := hid hx
  have HB := hid hb
  have HA := hid ha
  have HBS := hid hbs
  have HP := hid hp
  have H1 := hid (fun (b0 : Nat) (w : World) (hp : PlainAt w b0 s l A n c B m d) (ha : Rd w w.heap.size A (i64s xs)) => hv ▸ l02Plain_calls b0 s l A n c B m d xs hx hn hm w hp ha)
  have H2 := hid (l00In_is (t : Int) 0 12 true (by unfold inB; simp; omega))
  clear hx hb ha hbs hp hv
  go_enter Try.func26, Try.ntmps26
  go_wp2_with fail
  refine (H1.out w.heap.size _ ⟨by go_simp, by go_simp, by go_simp, by go_simp⟩ (rd_alloc HA.out _)).mono ?_
  rintro e w' ⟨rfl, j, rfl⟩
  go_wp2_with fail
  refine (H2.out _).mono ?_
  rintro e w' ⟨rfl, j2, rfl⟩
  have BEL0 := hid (below_drewN ((Below.refl w.heap.size w).alloc (Nat.le_refl _) (.cells #[.int .i64 (s : Int), .int .i64 (l : Int), .slice A n c, .slice B m d] 31)) (j + j2))
  have hz : w.heap.size < (World.drewN (w.alloc (.cells #[.int .i64 (s : Int), .int .i64 (l : Int), .slice A n c, .slice B m d] 31)) (j + j2)).heap.size := by simp
  have PA0 := hid (show PlainAt (World.drewN (w.alloc (.cells #[.int .i64 (s : Int), .int .i64 (l : Int), .slice A n c, .slice B m d] 31)) (j + j2)) w.heap.size s l A n c B m d from ⟨by go_simp, by go_simp, by go_simp, by go_simp⟩)
  simp only [World.drewN_drewN]
  generalize World.drewN (w.alloc (.cells #[.int .i64 (s : Int), .int .i64 (l : Int), .slice A n c, .slice B m d] 31)) (j + j2) = w1 at *
  have c0 := PA0.out.c0
  go_wp2_with (at_make; refine wpList_make_full _ rfl _ _ 22 rfl w1.heap.size 2 i0 (Value.int .i64 0) 1 Try.underlying22 hi0 hz0 hz1 _ _ _ _ s rfl rfl rfl rfl (by rw [hz2]; omega) (by simp only [maxLen]; omega) (Nat.le_refl _) ?_; intro w2 hown hgrow; rw [Hmul.out] at hown; simp only [Value.cells] at hown; rw [Hz.out, i64s_rep] at hown; have O2 := hid (OwnI.of hown); have k0 := O2.out.cell (k := 0) (by omega); have kf := O2.out.frozen 0; have BEL2 := hid (show Below w1.heap.size w1 w2 from (Below.refl _ _).grown hgrow (Nat.le_refl _) (by simp)); clear hown hgrow)
  have O3 := hid (O2.out.set 0 1)
  have BEL3 := hid (BEL2.out.setCell (p := ⟨w1.heap.size, 0, none⟩) (Nat.le_refl _) (.int .i64 1))
  clear k0 kf O2 BEL2 c0
  go_loopw [6, 7] (fun sl i wr => ∃ (k g : Nat), k ≤ t ∧ i = .int .i64 k ∧ sl = .slice (some ⟨g, 0, none⟩) s s ∧ w1.heap.size ≤ g ∧ Hid (OwnI wr g s (cnt xs s l k)) ∧ Hid (Below w1.heap.size w1 wr)) (fun _ i _ => t - (intOf i).toNat)
  case atStart => exact ⟨0, _, Nat.zero_le _, rfl, rfl, Nat.le_refl _, O3, BEL3⟩
  case round =>
    obtain ⟨k, g, hk, rfl, rfl, hg, hown, hbel⟩ := hrel
    have PA := hid (plainAt_step PA0.out hbel.out hz)
    have hgl := hown.out.lt
    have c0 := PA.out.c0
    by_cases hlt : k < t
    · go_wp2_with (at_make; refine wpList_make_full _ rfl _ _ 22 rfl wr.heap.size 2 i0 (Value.int .i64 0) 1 Try.underlying22 hi0 hz0 hz1 _ _ _ _ s rfl rfl rfl rfl (by rw [hz2]; omega) (by simp only [maxLen]; omega) (Nat.le_refl _) ?_; intro w2 hown2 hgrow; rw [Hmul.out] at hown2; simp only [Value.cells] at hown2; rw [Hz.out, i64s_rep] at hown2; have O2 := hid (OwnI.of hown2); have BEL2 := hid (show Below wr.heap.size wr w2 from (Below.refl _ _).grown hgrow (Nat.le_refl _) (by simp)); clear hown2 hgrow c0)
      have OG := hid (hown.out.step BEL2.out)
      have PA2 := hid (plainAt_step PA.out BEL2.out (by have := hbel.out.size; omega))
      have BELL := hid (hbel.out.trans (BEL2.out.mono hbel.out.size))
      have hz2 : w1.heap.size ≤ wr.heap.size := hbel.out.size
      clear PA BEL2 hbel hown
      generalize wr.heap.size = g2 at *
      generalize hnow : cnt xs s l k = now at *
      have HNOW := hid hnow
      clear hnow
      go_loopw [9] (fun i wr => ∃ a : Nat, a ≤ s ∧ i = .int .i64 a ∧ Hid (OwnI wr g2 s (stat xs l now (List.replicate s 0) a)) ∧ Hid (OwnI wr g s now) ∧ Hid (Below w1.heap.size w1 wr)) (fun i _ => s - (intOf i).toNat)
      case atStart => exact ⟨0, Nat.zero_le _, rfl, O2, OG, BELL⟩
      case round =>
        obtain ⟨a, ha, rfl, hown2, howng, hbel⟩ := hrel
        have PA := hid (plainAt_step PA0.out hbel.out hz)
        have c0 := PA.out.c0
        have c1 := PA.out.c1
        by_cases hla : a < s
        · go_wp2_with fail
          go_loopw [10] (fun i wr => ∃ b : Nat, b ≤ l ∧ i = .int .i64 b ∧ Hid (OwnI wr g2 s (lett xs l a (now.getD a 0) (stat xs l now (List.replicate s 0) a) b)) ∧ Hid (OwnI wr g s now) ∧ Hid (Below w1.heap.size w1 wr)) (fun i _ => l - (intOf i).toNat)
          case atStart => exact ⟨0, Nat.zero_le _, rfl, hown2, howng, hbel⟩
          case round =>
            clear hown2 howng hbel PA c0 c1
            obtain ⟨b, hb, rfl, hown2, howng, hbel⟩ := hrel
            have PA := hid (plainAt_step PA0.out hbel.out hz)
            have c1 := PA.out.c1
            have c2 := PA.out.c2
            by_cases hlb : b < l
            · obtain ⟨i, v, ho⟩ := step_ok HP.out HX.out (s := (a : Int)) (l := (b : Int)) (by omega) (by omega)
              obtain ⟨q, rfl⟩ := Int.eq_ofNat_of_zero_le ho.vb.1
              have hto : q < s := by have := ho.vb.2; omega
              obtain ⟨b2, o2, rfl, hb2, hc2⟩ := i64s_at (rd_step HA.out (BEL0.out.trans (hbel.out.mono (by omega)))) ho.lx
              have hv : xs[i]'ho.lx = (q : Int) := by have := ho.at_; rw [List.getElem?_eq_getElem ho.lx] at this; exact Option.some.inj this
              rw [hv] at hc2
              have hi : (i : Int) < (n : Int) := by have := ho.lt; omega
              have w1a := ho.w1
              have w2a := ho.w2
              have W1 : IntKind.i64.wrap ((a : Int) * (l : Int)) = (a : Int) * (l : Int) := by rw [IntKind.wrap_i64]; have := ho.w1; unfold wrap64 at this; omega
              have W2 : IntKind.i64.wrap ((a : Int) * (l : Int) + (b : Int)) = (i : Int) := by rw [IntKind.wrap_i64]; have := ho.w2; unfold wrap64 at this; omega
              have HS := hid (show lett xs l a (now.getD a 0) (stat xs l now (List.replicate s 0) a) (b + 1) = (lett xs l a (now.getD a 0) (stat xs l now (List.replicate s 0) a) b).set q (wrap64 ((lett xs l a (now.getD a 0) (stat xs l now (List.replicate s 0) a) b).getD q 0 + now.getD a 0)) by rw [lett, ho.r]; rfl)
              have k1 := hown2.out.cell hto
              have kf := hown2.out.frozen q
              have k2 := howng.out.cell hla
              have O' := hid (fun v => hown2.out.drew.set q v)
              have OG' := hid (fun v => howng.out.drew.other (p := ⟨g2, q, none⟩) (show g ≠ g2 by omega) v)
              have BEL' := hid (fun v => hbel.out.drew.setCell (p := ⟨g2, q, none⟩) hz2 v)
              clear hv ho PA hown2 howng hbel
              generalize lett xs l a (now.getD a 0) (stat xs l now (List.replicate s 0) a) b = cur at *
              generalize cur.getD q 0 = x at *
              generalize now.getD a 0 = y at *
              go_wp2_with fail
              go_region
              all_goals
                go_wp2_with fail
                go_roundw
                case rel => exact ⟨b + 1, hlb, by go_num, by rw [HS.out]; exact O'.out _, OG'.out _, BEL'.out _⟩
                case measure => simp [intOf]; omega
            · obtain rfl : b = l := by omega
              go_wp2_with fail
              go_roundw
              case rel => exact ⟨a + 1, hla, by go_num, hown2, howng, hbel⟩
              case measure => simp [intOf]; omega
        · obtain rfl : a = s := by omega
          go_wp2_with fail
          go_roundw
          case rel => exact ⟨k + 1, g2, hlt, by go_num, rfl, hz2, by rw [cnt, HNOW.out]; exact hown2, hbel⟩
          case measure => simp [intOf]; omega
    · obtain rfl : k = t := by omega
      have RB := hid (rd_step HBS.out (BEL0.out.trans (hbel.out.mono (by omega))))
      have BELW := hid (BEL0.out.trans (hbel.out.mono (by omega)))
      generalize cnt xs s l k = now at *
      clear hbel O3 BEL3 H1 H2
      have hlk : ¬ (k : Int) < (k : Int) := by omega
      go_wp2_with fail
      go_loopw [12, 13] (fun sm i wr2 => ∃ a : Nat, a ≤ s ∧ i = .int .i64 a ∧ sm = .int .i64 (tot bs now a) ∧ wr2 = wr) (fun _ i _ => s - (intOf i).toNat)
      case atStart => exact ⟨0, Nat.zero_le _, rfl, rfl, rfl⟩
      case round =>
        obtain ⟨a, ha, rfl, rfl, rfl⟩ := hrel
        have c3 := PA.out.c3
        by_cases hla : a < s
        · have hab : a < bs.length := by rw [HB.out, HMS.out]; exact hla
          obtain ⟨b2, o2, rfl, hb2, hc2⟩ := bools_at RB.out hab
          have k2 := hown.out.cell hla
          have ham : (a : Int) < (m : Int) := by rw [HMS.out]; omega
          have hg1 : bs.getD a false = bs[a] := by rw [List.getD_eq_getElem?_getD, List.getElem?_eq_getElem hab]; rfl
          have HT := hid (show tot bs now (a + 1) = if bs[a] = true then wrap64 (tot bs now a + now.getD a 0) else tot bs now a by rw [tot, hg1])
          clear hg1
          cases hbv : bs[a]
          · rw [hbv] at hc2
            have HT := hid (HT.out.trans (if_neg (by rw [hbv]; exact Bool.false_ne_true)))
            clear hbv
            generalize tot bs now a = x at *
            go_wp2_with fail
            go_roundw
            case rel => exact ⟨a + 1, hla, by go_num, by rw [HT.out], trivial⟩
            case measure => simp [intOf]; omega
          · rw [hbv] at hc2
            have HT := hid (HT.out.trans (if_pos (by rw [hbv])))
            clear hbv
            generalize tot bs now a = x at *
            generalize now.getD a 0 = y at *
            go_wp2_with fail
            go_roundw
            case rel => exact ⟨a + 1, hla, by go_num, by rw [HT.out], trivial⟩
            case measure => simp [intOf]; omega
        · obtain rfl : a = s := by omega
          have haa : ¬ (a : Int) < (a : Int) := by omega
          go_wp2_with fail
          go_ret2
          exact ⟨rfl, BELW.out⟩
set_option maxHeartbeats 3200000 in
theorem impl_yes (s l : Nat) (A : Option Addr) (n c : Nat) (B : Option Addr) (m d : Nat) (xs : List Int) (bs : List Bool) (hx : xs.length = n) (hb : bs.length = m) (hn : n ≤ 1048576) (hm : m ≤ 1048576) (hv : validP s l n xs m = true)
    (t : Nat) (ht : t ≤ 12) (w : World) (ha : Rd w w.heap.size A (i64s xs)) (hbs : Rd w w.heap.size B (bools bs)) :
    Calls Try.prog 27 #[.agg #[.int .i64 (s : Int), .int .i64 (l : Int), .slice A n c, .slice B m d], .int .i64 (t : Int)] w (RetIB (tot bs (cnt xs s l t) s) true w) := by
  have hp := plainOk hv
  have hs1 : 1 ≤ s ∧ s ≤ 64 := by have := hp.s; omega
  have hl1 : 1 ≤ l ∧ l ≤ 4 := by have := hp.l; omega
  have HMS := hid (show m = s by have := hp.m; omega)
  obtain ⟨i0, hi0, hz0, hz1, hz2⟩ := info_parts toInt64S_info
  have Hz := hid (toList_madeCells_one (Value.int .i64 0) s)
  have Hmul := hid (Nat.mul_one s)
  have HX := hid hx
  have HB := hid hb
  have HA := hid ha
  have HBS := hid hbs
  have HP := hid hp
  have H1 := hid (fun (w : World) (ha : Rd w w.heap.size A (i64s xs)) => hv ▸ implValid_calls s l A n c B m d xs hx hn hm w ha)
  have H2 := hid (within_is (t : Int) 0 12 true (by unfold inB; simp; omega))
  have TO := hid fun (s1 l1 : Int) (i : Nat) (v : Int) (ho : StepOk s l n xs s1 l1 i v) (w : World) (ha : Rd w w.heap.size A (i64s xs)) => to_calls s l A n c B m d xs hx hn s1 l1 i v ho w ha
  clear hx hb ha hbs hp hv
  go_enter Try.func27, Try.ntmps27
  go_wp2_with fail
  refine (H1.out _ (rd_alloc HA.out _)).mono ?_
  rintro e w0 ⟨rfl, bel0⟩
  have hz0' : w.heap.size < w0.heap.size := by have := bel0.size; simp at this; omega
  have hc := (old_cell bel0).1
  have PAz := hid (show PlainAt w0 w.heap.size s l A n c B m d from ⟨by rw [hc _ _ (by simp)]; go_simp, by rw [hc _ _ (by simp)]; go_simp, by rw [hc _ _ (by simp)]; go_simp, by rw [hc _ _ (by simp)]; go_simp⟩)
  have BELz := hid (((Below.refl w.heap.size w).alloc (Nat.le_refl _) _).trans (bel0.mono (by simp)))
  clear hc bel0
  go_wp2_with fail
  refine (H2.out _).mono ?_
  rintro e w' ⟨rfl, j2, rfl⟩
  have BEL0 := hid (below_drewN BELz.out j2)
  have hz : w.heap.size < (w0.drewN j2).heap.size := hz0'
  have PA0 := hid (PAz.out.drewN j2)
  clear hz0' PAz BELz
  generalize w0.drewN j2 = w1 at *
  have c0 := PA0.out.c0
  go_wp2_with (at_make; refine wpList_make_full _ rfl _ _ 22 rfl w1.heap.size 2 i0 (Value.int .i64 0) 1 Try.underlying22 hi0 hz0 hz1 _ _ _ _ s rfl rfl rfl rfl (by rw [hz2]; omega) (by simp only [maxLen]; omega) (Nat.le_refl _) ?_; intro w2 hown2 hgrow; rw [Hmul.out] at hown2; simp only [Value.cells] at hown2; rw [Hz.out, i64s_rep] at hown2; have O2 := hid (OwnI.of hown2); have k0 := O2.out.cell (k := 0) (by omega); have kf := O2.out.frozen 0; have BEL2 := hid (show Below w1.heap.size w1 w2 from (Below.refl _ _).grown hgrow (Nat.le_refl _) (by simp)); clear hown2 hgrow)
  have O3 := hid (O2.out.set 0 1)
  have BEL3 := hid (BEL2.out.setCell (p := ⟨w1.heap.size, 0, none⟩) (Nat.le_refl _) (.int .i64 1))
  clear k0 kf O2 BEL2 c0
  go_loopw [6, 28] (fun sl i wr => ∃ (k g : Nat), k ≤ t ∧ i = .int .i64 k ∧ sl = .slice (some ⟨g, 0, none⟩) s s ∧ w1.heap.size ≤ g ∧ Hid (OwnI wr g s (cnt xs s l k)) ∧ Hid (Below w1.heap.size w1 wr)) (fun _ i _ => t - (intOf i).toNat)
  case atStart => exact ⟨0, _, Nat.zero_le _, rfl, rfl, Nat.le_refl _, O3, BEL3⟩
  case round =>
    obtain ⟨k, g, hk, rfl, rfl, hg, hown, hbel⟩ := hrel
    have PA := hid (plainAt_step PA0.out hbel.out hz)
    have hgl := hown.out.lt
    have c0 := PA.out.c0
    by_cases hlt : k < t
    · go_wp2_with (at_make; refine wpList_make_full _ rfl _ _ 22 rfl wr.heap.size 2 i0 (Value.int .i64 0) 1 Try.underlying22 hi0 hz0 hz1 _ _ _ _ s rfl rfl rfl rfl (by rw [hz2]; omega) (by simp only [maxLen]; omega) (Nat.le_refl _) ?_; intro w2 hown2 hgrow; rw [Hmul.out] at hown2; simp only [Value.cells] at hown2; rw [Hz.out, i64s_rep] at hown2; have O2 := hid (OwnI.of hown2); have BEL2 := hid (show Below wr.heap.size wr w2 from (Below.refl _ _).grown hgrow (Nat.le_refl _) (by simp)); clear hown2 hgrow c0)
      have OG := hid (hown.out.step BEL2.out)
      have PA2 := hid (plainAt_step PA.out BEL2.out (by have := hbel.out.size; omega))
      have BELL := hid (hbel.out.trans (BEL2.out.mono hbel.out.size))
      have hz2 : w1.heap.size ≤ wr.heap.size := hbel.out.size
      clear PA BEL2 hbel hown
      generalize wr.heap.size = g2 at *
      generalize hnow : cnt xs s l k = now at *
      have HNOW := hid hnow
      clear hnow
      go_loopw [35] (fun i wr => ∃ a : Nat, a ≤ s ∧ i = .int .i64 a ∧ Hid (OwnI wr g2 s (stat xs l now (List.replicate s 0) a)) ∧ Hid (OwnI wr g s now) ∧ Hid (Below w1.heap.size w1 wr)) (fun i _ => s - (intOf i).toNat)
      case atStart => exact ⟨0, Nat.zero_le _, rfl, O2, OG, BELL⟩
      case round =>
        obtain ⟨a, ha, rfl, hown2, howng, hbel⟩ := hrel
        have PA := hid (plainAt_step PA0.out hbel.out hz)
        have c1 := PA.out.c1
        by_cases hla : a < s
        · have k2 := howng.out.cell hla
          generalize hy : now.getD a 0 = y at *
          have HY := hid hy
          clear hy
          go_wp2_with fail
          go_loopw [42] (fun i wr => ∃ b : Nat, b ≤ l ∧ i = .int .i64 b ∧ Hid (OwnI wr g2 s (lett xs l a y (stat xs l now (List.replicate s 0) a) b)) ∧ Hid (OwnI wr g s now) ∧ Hid (Below w1.heap.size w1 wr)) (fun i _ => l - (intOf i).toNat)
          case atStart => exact ⟨0, Nat.zero_le _, rfl, hown2, howng, hbel⟩
          case round =>
            clear hown2 howng hbel PA c1 k2
            obtain ⟨b, hb, rfl, hown2, howng, hbel⟩ := hrel
            have PA := hid (plainAt_step PA0.out hbel.out hz)
            by_cases hlb : b < l
            · obtain ⟨i, v, ho⟩ := step_ok HP.out HX.out (s := (a : Int)) (l := (b : Int)) (by omega) (by omega)
              obtain ⟨q, rfl⟩ := Int.eq_ofNat_of_zero_le ho.vb.1
              have hq : q < s := by have := ho.vb.2; omega
              have HO := hid ho
              have HS := hid (show lett xs l a y (stat xs l now (List.replicate s 0) a) (b + 1) = (lett xs l a y (stat xs l now (List.replicate s 0) a) b).set q (wrap64 ((lett xs l a y (stat xs l now (List.replicate s 0) a) b).getD q 0 + y)) by rw [lett, ho.r]; rfl)
              clear ho
              obtain ⟨c0, c1, c2, c3⟩ := PA.out
              generalize lett xs l a y (stat xs l now (List.replicate s 0) a) b = cur at *
              go_wp2_with fail
              refine (TO.out _ _ i _ HO.out _ (rd_step HA.out (BEL0.out.trans (hbel.out.mono (by omega))))).mono ?_
              rintro e w3 ⟨rfl, bel3⟩
              have hown3 := hown2.out.step bel3
              have howng3 := howng.out.step bel3
              have hbel3 := hbel.out.trans (bel3.mono hbel.out.size)
              have k1 := hown3.cell hq
              have kf := hown3.frozen q
              have O' := hid (fun v => hown3.set q v)
              have OG' := hid (fun v => howng3.other (p := ⟨g2, q, none⟩) (show g ≠ g2 by omega) v)
              have BEL' := hid (fun v => hbel3.setCell (p := ⟨g2, q, none⟩) hz2 v)
              clear PA hown2 howng hbel c0 c1 c2 c3 bel3 hown3 howng3 hbel3
              generalize cur.getD q 0 = x at *
              go_wp2_with fail
              go_roundw
              case rel => exact ⟨b + 1, hlb, by go_num, by rw [HS.out]; exact O'.out _, OG'.out _, BEL'.out _⟩
              case measure => simp [intOf]; omega
            · obtain rfl : b = l := by omega
              have hbb : ¬ (b : Int) < (b : Int) := by omega
              go_wp2_with fail
              go_roundw
              case rel => exact ⟨a + 1, hla, by go_num, by rw [stat, HY.out]; exact hown2, howng, hbel⟩
              case measure => simp [intOf]; omega
        · obtain rfl : a = s := by omega
          have haa : ¬ (a : Int) < (a : Int) := by omega
          go_wp2_with fail
          go_roundw
          case rel => exact ⟨k + 1, g2, hlt, by go_num, rfl, hz2, by rw [cnt, HNOW.out]; exact hown2, hbel⟩
          case measure => simp [intOf]; omega
    · obtain rfl : k = t := by omega
      have RB := hid (rd_step HBS.out (BEL0.out.trans (hbel.out.mono (by omega))))
      have BELW := hid (BEL0.out.trans (hbel.out.mono (by omega)))
      generalize cnt xs s l k = now at *
      clear hbel O3 BEL3 H1 H2
      have hlk : ¬ (k : Int) < (k : Int) := by omega
      go_wp2_with fail
      go_loopw [11, 61] (fun sm i wr2 => ∃ a : Nat, a ≤ s ∧ i = .int .i64 a ∧ sm = .int .i64 (tot bs now a) ∧ wr2 = wr) (fun _ i _ => s - (intOf i).toNat)
      case atStart => exact ⟨0, Nat.zero_le _, rfl, rfl, rfl⟩
      case round =>
        obtain ⟨a, ha, rfl, rfl, rfl⟩ := hrel
        have c3 := PA.out.c3
        by_cases hla : a < s
        · have hab : a < bs.length := by rw [HB.out, HMS.out]; exact hla
          obtain ⟨b2, o2, rfl, hb2, hc2⟩ := bools_at RB.out hab
          have k2 := hown.out.cell hla
          have ham : (a : Int) < (m : Int) := by rw [HMS.out]; omega
          have hg1 : bs.getD a false = bs[a] := by rw [List.getD_eq_getElem?_getD, List.getElem?_eq_getElem hab]; rfl
          have HT := hid (show tot bs now (a + 1) = if bs[a] = true then wrap64 (tot bs now a + now.getD a 0) else tot bs now a by rw [tot, hg1])
          clear hg1
          cases hbv : bs[a]
          · rw [hbv] at hc2
            have HT := hid (HT.out.trans (if_neg (by rw [hbv]; exact Bool.false_ne_true)))
            clear hbv
            generalize tot bs now a = x at *
            go_wp2_with fail
            go_roundw
            case rel => exact ⟨a + 1, hla, by go_num, by rw [HT.out], trivial⟩
            case measure => simp [intOf]; omega
          · rw [hbv] at hc2
            have HT := hid (HT.out.trans (if_pos (by rw [hbv])))
            clear hbv
            generalize tot bs now a = x at *
            generalize now.getD a 0 = y at *
            go_wp2_with fail
            go_roundw
            case rel => exact ⟨a + 1, hla, by go_num, by rw [HT.out], trivial⟩
            case measure => simp [intOf]; omega
        · obtain rfl : a = s := by omega
          have haa : ¬ (a : Int) < (a : Int) := by omega
          go_wp2_with fail
          go_ret2
          exact ⟨rfl, BELW.out⟩
def okC (S L : Int) (n : Nat) (xs : List Int) (m : Nat) (t : Int) : Bool := validP S L n xs m && inB t 0 12
def resC (S L : Int) (n : Nat) (xs : List Int) (m : Nat) (bs : List Bool) (t : Int) : Int := if okC S L n xs m t = true then tot bs (cnt xs S.toNat L.toNat t.toNat) S.toNat else 0
set_option maxHeartbeats 1600000 in
theorem spec_calls (S L : Int) (A : Option Addr) (n c : Nat) (B : Option Addr) (m d : Nat) (xs : List Int) (bs : List Bool) (hx : xs.length = n) (hb : bs.length = m) (hn : n ≤ 1048576) (hm : m ≤ 1048576)
    (t : Int) (w : World) (ha : Rd w w.heap.size A (i64s xs)) (hbs : Rd w w.heap.size B (bools bs)) :
    Calls Try.prog 26 #[.agg #[.int .i64 S, .int .i64 L, .slice A n c, .slice B m d], .int .i64 t] w (RetIB (resC S L n xs m bs t) (okC S L n xs m t) w) := by
  have HV := fun (b : Bool) (h : validP S L n xs m = b) (b0 : Nat) (w : World) (hp : PlainAt w b0 S L A n c B m d) (ha : Rd w w.heap.size A (i64s xs)) => h ▸ l02Plain_calls b0 S L A n c B m d xs hx hn hm w hp ha
  have HA := hid ha
  cases h1 : validP S L n xs m
  · have H1 := hid (HV _ h1)
    unfold resC okC
    rw [h1, Bool.false_and, if_neg Bool.false_ne_true]
    clear HV hx ha hbs hb h1
    go_enter Try.func26, Try.ntmps26
    go_wp2_with fail
    refine (H1.out _ _ ⟨by go_simp, by go_simp, by go_simp, by go_simp⟩ (rd_alloc HA.out _)).mono ?_
    rintro e w' ⟨rfl, j, rfl⟩
    go_wp2
    go_ret2
    exact ⟨rfl, below_drewN ((Below.refl _ _).alloc (Nat.le_refl _) _) _⟩
  · cases h2 : inB t 0 12
    · have H1 := hid (HV _ h1)
      have H2 := hid (l00In_is t 0 12 false h2)
      unfold resC okC
      rw [h1, h2, Bool.and_false, if_neg Bool.false_ne_true]
      clear HV hx ha hbs hb h1 h2
      go_enter Try.func26, Try.ntmps26
      go_wp2_with fail
      refine (H1.out _ _ ⟨by go_simp, by go_simp, by go_simp, by go_simp⟩ (rd_alloc HA.out _)).mono ?_
      rintro e w' ⟨rfl, j, rfl⟩
      go_wp2_with fail
      refine (H2.out _).mono ?_
      rintro e w' ⟨rfl, j2, rfl⟩
      go_wp2
      go_ret2
      exact ⟨rfl, below_drewN ((Below.refl _ _).alloc (Nat.le_refl _) _) _⟩
    · have hp := plainOk h1
      have hS := hp.s
      have hL := hp.l
      have ht := inB_iff h2
      unfold resC okC
      rw [h1, h2, Bool.and_true, if_pos rfl]
      obtain ⟨s, rfl⟩ := Int.eq_ofNat_of_zero_le (show 0 ≤ S by omega)
      obtain ⟨l, rfl⟩ := Int.eq_ofNat_of_zero_le (show 0 ≤ L by omega)
      obtain ⟨k, rfl⟩ := Int.eq_ofNat_of_zero_le ht.1
      exact spec_yes s l A n c B m d xs bs hx hb hn hm h1 k (by omega) w ha hbs
set_option maxHeartbeats 1600000 in
theorem impl_calls (S L : Int) (A : Option Addr) (n c : Nat) (B : Option Addr) (m d : Nat) (xs : List Int) (bs : List Bool) (hx : xs.length = n) (hb : bs.length = m) (hn : n ≤ 1048576) (hm : m ≤ 1048576)
    (t : Int) (w : World) (ha : Rd w w.heap.size A (i64s xs)) (hbs : Rd w w.heap.size B (bools bs)) :
    Calls Try.prog 27 #[.agg #[.int .i64 S, .int .i64 L, .slice A n c, .slice B m d], .int .i64 t] w (RetIB (resC S L n xs m bs t) (okC S L n xs m t) w) := by
  have HV := fun (b : Bool) (h : validP S L n xs m = b) (w : World) (ha : Rd w w.heap.size A (i64s xs)) => h ▸ implValid_calls S L A n c B m d xs hx hn hm w ha
  have HA := hid ha
  cases h1 : validP S L n xs m
  · have H1 := hid (HV _ h1)
    unfold resC okC
    rw [h1, Bool.false_and, if_neg Bool.false_ne_true]
    clear HV hx ha hbs hb h1
    go_enter Try.func27, Try.ntmps27
    go_wp2_with fail
    refine (H1.out _ (rd_alloc HA.out _)).mono ?_
    rintro e w1 ⟨rfl, bel1⟩
    have BEL1 := hid (((Below.refl w.heap.size w).alloc (Nat.le_refl _) _).trans (bel1.mono (by simp)))
    clear bel1
    go_wp2
    go_ret2
    exact ⟨rfl, BEL1.out⟩
  · cases h2 : inB t 0 12
    · have H1 := hid (HV _ h1)
      have H2 := hid (within_is t 0 12 false h2)
      unfold resC okC
      rw [h1, h2, Bool.and_false, if_neg Bool.false_ne_true]
      clear HV hx ha hbs hb h1 h2
      go_enter Try.func27, Try.ntmps27
      go_wp2_with fail
      refine (H1.out _ (rd_alloc HA.out _)).mono ?_
      rintro e w1 ⟨rfl, bel1⟩
      have BEL1 := hid (((Below.refl w.heap.size w).alloc (Nat.le_refl _) _).trans (bel1.mono (by simp)))
      clear bel1
      go_wp2_with fail
      refine (H2.out _).mono ?_
      rintro e w' ⟨rfl, j2, rfl⟩
      go_wp2
      go_ret2
      exact ⟨rfl, below_drewN BEL1.out _⟩
    · have hp := plainOk h1
      have hS := hp.s
      have hL := hp.l
      have ht := inB_iff h2
      unfold resC okC
      rw [h1, h2, Bool.and_true, if_pos rfl]
      obtain ⟨s, rfl⟩ := Int.eq_ofNat_of_zero_le (show 0 ≤ S by omega)
      obtain ⟨l, rfl⟩ := Int.eq_ofNat_of_zero_le (show 0 ≤ L by omega)
      obtain ⟨k, rfl⟩ := Int.eq_ofNat_of_zero_le ht.1
      exact impl_yes s l A n c B m d xs bs hx hb hn hm h1 k (by omega) w ha hbs
open Go.Proofs.Ytlfmcdobiojdlaa.fnExactValidPlain (left_small)
set_option maxHeartbeats 1600000 in
theorem walk (S L : Int) (A : Option Addr) (n c : Nat) (B : Option Addr) (m d : Nat) (xs : List Int) (bs : List Bool) (hx : xs.length = n) (hb : bs.length = m) (hnc : n ≤ maxLen) (hmd : m ≤ maxLen) {w : World} (ha : Rd w w.heap.size A (i64s xs)) (hbs : Rd w w.heap.size B (bools bs))
    (t : Int) (ht : (Lit.int .i64 t).wf = true) :
    Calls Try.prog 7 #[.agg #[.int .i64 S, .int .i64 L, .slice A n c, .slice B m d], .int .i64 t] w fun e w' => e = .returned (.bool true) ∧ Below w.heap.size w w' := by
  have HX := hid hx
  have HB := hid hb
  have HA := hid ha
  have HBS := hid hbs
  unfold maxLen at hnc hmd
  have HS := hid (szPlain_calls S L A n c B m d 1048576 (by omega) (by omega) (by omega))
  clear hx hb ha hbs ht
  have bb1 : (resC S L n xs m bs t != resC S L n xs m bs t) = false := bne_self_eq_false _
  have bb2 : (okC S L n xs m t != okC S L n xs m t) = false := bne_self_eq_false _
  by_cases hl : leftP n m 1048576 < 0
  · generalize leftP n m 1048576 = l at *
    go_enter Try.func7, Try.ntmps7
    go_wp2_with fail
    refine (HS.out _).mono ?_
    rintro e w1 ⟨rfl, bel1⟩
    have BEL := hid (((Below.refl w.heap.size w).alloc (Nat.le_refl _) _).trans (bel1.mono (by simp)))
    clear bel1
    go_wp2
    go_ret
    exact ⟨rfl, BEL.out⟩
  · have hsm := left_small hl
    have hn := hsm.1
    have hm := hsm.2
    clear hsm
    generalize leftP n m 1048576 = l at *
    have TP := hid fun (w : World) => toPlain_calls S L A n c B m d xs bs HX.out HB.out hn hm w
    go_enter Try.func7, Try.ntmps7
    go_wp2_with fail
    refine (HS.out _).mono ?_
    rintro e w1 ⟨rfl, bel1⟩
    have hc := (old_cell bel1).1
    have hz : w.heap.size < w1.heap.size := by have := bel1.size; simp at this; omega
    have BEL1 := hid (((Below.refl w.heap.size w).alloc (Nat.le_refl _) _).trans (bel1.mono (by simp)))
    have PA1 := hid (show PlainAt w1 w.heap.size S L A n c B m d from ⟨by rw [hc _ _ (by simp)]; go_simp, by rw [hc _ _ (by simp)]; go_simp, by rw [hc _ _ (by simp)]; go_simp, by rw [hc _ _ (by simp)]; go_simp⟩)
    clear hc bel1 HS
    obtain ⟨a0, a1, a2, a3⟩ := PA1.out
    go_wp2_with fail
    refine (TP.out _ (rd_step HA.out BEL1.out) (rd_step HBS.out BEL1.out)).mono ?_
    rintro e w2 ⟨g1, g2, rfl, R1, R2, bel2⟩
    have BEL2 := hid (BEL1.out.trans (bel2.mono BEL1.out.size))
    have hz2 : w.heap.size < w2.heap.size := by have := bel2.size; omega
    have PA2 := hid (plainAt_step PA1.out bel2 hz)
    have RR1 := hid R1
    have RR2 := hid R2
    clear bel2 BEL1 R1 R2 PA1 a0 a1 a2 a3
    go_wp2_with fail
    refine (spec_calls S L _ n _ _ m _ xs bs HX.out HB.out hn hm t _ RR1.out RR2.out).mono ?_
    rintro e w4 ⟨rfl, bel4⟩
    have BEL4 := hid (BEL2.out.trans (bel4.mono BEL2.out.size))
    have hz4 : w.heap.size < w4.heap.size := by have := bel4.size; omega
    have PA4 := hid (plainAt_step PA2.out bel4 hz2)
    obtain ⟨a0, a1, a2, a3⟩ := PA4.out
    clear bel4 BEL2 RR1 RR2 PA2
    go_wp2_with fail
    refine (TP.out _ (rd_step HA.out BEL4.out) (rd_step HBS.out BEL4.out)).mono ?_
    rintro e w5 ⟨g3, g4, rfl, R3, R4, bel5⟩
    have BEL5 := hid (BEL4.out.trans (bel5.mono BEL4.out.size))
    have hz5 : w.heap.size < w5.heap.size := by have := bel5.size; omega
    have PA5 := hid (plainAt_step PA4.out bel5 hz4)
    have RR3 := hid R3
    have RR4 := hid R4
    clear bel5 BEL4 R3 R4 PA4 a0 a1 a2 a3
    go_wp2_with fail
    refine (impl_calls S L _ n _ _ m _ xs bs HX.out HB.out hn hm t _ (rd_alloc RR3.out _) (rd_alloc RR4.out _)).mono ?_
    rintro e w7 ⟨rfl, bel7⟩
    have hz7 : w5.heap.size < w7.heap.size := by have := bel7.size; simp at this; omega
    have BEL7 := hid ((BEL5.out.alloc (by omega) _).trans (bel7.mono (by simp; omega)))
    have hc := (old_cell bel7).1
    have PX7 := hid (show PlainAt w7 w5.heap.size S L (some ⟨g3, 0, none⟩) n n (some ⟨g4, 0, none⟩) m m from ⟨by rw [hc _ _ (by simp)]; go_simp, by rw [hc _ _ (by simp)]; go_simp, by rw [hc _ _ (by simp)]; go_simp, by rw [hc _ _ (by simp)]; go_simp⟩)
    have PA7 := hid (show PlainAt w7 w.heap.size S L A n c B m d from plainAt_step (plainAt_step PA5.out ((Below.refl _ _).alloc (Nat.le_refl _) _) (by omega)) bel7 (by simp; omega))
    have R75 := hid (rd_step (rd_alloc RR3.out _) bel7)
    have R76 := hid (rd_step (rd_alloc RR4.out _) bel7)
    clear hc bel7 RR3 RR4 PA5
    go_wp2_with fail
    go_cut [43] from 39 to 43 (fun v wx => v = .bool false ∧ Hid (Below w7.heap.size w7 wx))
    case first =>
      have RXd := hid (show Rd w7.drew w7.drew.heap.size (some ⟨g3, 0, none⟩) (i64s xs) from R75.out.drewN 1)
      have RYd := hid (show Rd w7.drew w7.drew.heap.size (some ⟨g4, 0, none⟩) (bools bs) from R76.out.drewN 1)
      have RA8 := hid (show Rd w7.drew w7.drew.heap.size A (i64s xs) from (rd_step HA.out BEL7.out).drewN 1)
      have RB8 := hid (show Rd w7.drew w7.drew.heap.size B (bools bs) from (rd_step HBS.out BEL7.out).drewN 1)
      obtain ⟨a0, a1, a2, a3⟩ := show PlainAt w7.drew w.heap.size S L A n c B m d from PA7.out.drewN 1
      obtain ⟨x0, x1, x2, x3⟩ := show PlainAt w7.drew w5.heap.size S L (some ⟨g3, 0, none⟩) n n (some ⟨g4, 0, none⟩) m m from PX7.out.drewN 1
      have hzx : w5.heap.size < w7.drew.heap.size := hz7
      go_region_with (first | (go_at_call 19; refine (TP.out _ RA8.out RB8.out).mono ?_; rintro e w9 ⟨g9, g10, rfl, R9, R10, bel9⟩; have y0 := ((old_cell bel9).1 _ 0 hzx).trans x0; have y1 := ((old_cell bel9).1 _ 1 hzx).trans x1; have y2 := ((old_cell bel9).1 _ 2 hzx).trans x2; have y3 := ((old_cell bel9).1 _ 3 hzx).trans x3; have RR9 := hid R9; have RR10 := hid R10; have BEL9 := hid bel9; clear R9 R10 bel9) | (go_at_call 21; refine (eqPlain_yes S L _ n _ _ m _ _ _ _ _ xs bs HX.out HB.out hn hm _ (rd_step RXd.out BEL9.out) (rd_step RYd.out BEL9.out) RR9.out RR10.out).mono ?_; rintro e w10 ⟨rfl, bel10⟩; have BEL10 := hid bel10; clear bel10))
      all_goals
        go_wp2_with fail
        go_meet
        case rel => exact ⟨rfl, (Below.refl w7.heap.size w7).drew.trans (BEL9.out.trans (BEL10.out.mono BEL9.out.size))⟩
    case rest =>
      obtain ⟨rfl, bel10⟩ := hcut
      have BEL10 := hid (BEL7.out.trans (bel10.out.mono (by omega)))
      go_wp2_with fail
      go_ret
      exact ⟨rfl, BEL10.out⟩
end Go.Proofs.Ytlfmcdobiojdlaa.fnExactCountWords
