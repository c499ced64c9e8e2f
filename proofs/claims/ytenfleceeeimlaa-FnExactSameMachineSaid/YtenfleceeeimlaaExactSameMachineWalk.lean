/-
  The law on SameMachine.
-/
import Derived.Test.YtenfleceeeimlaaLawM
import Derived.Deep.RegionWith
import Derived.Deep.CutRange
namespace Go.Proofs.Ytenfleceeeimlaa.fnExactSameMachine
open Go.RowKit Go.Proofs.Fl Go.Proofs.Ytenfleceeeimlaa.Num
set_option linter.unusedVariables false
set_option linter.unusedSimpArgs false
set_option maxHeartbeats 4000000 in
theorem walk (S L : Int) (A : Option Addr) (n c : Nat) (B : Option Addr) (m d : Nat) (C : Option Addr) (q f : Nat) (zs xs ys : List Int) (hz : zs.length = n * 4) (hx : xs.length = m) (hy : ys.length = q) (hnc : n ≤ maxLen) (hmd : m ≤ maxLen) (hqf : q ≤ maxLen) {w : World}
    (ha : Rd w w.heap.size A (i64s zs)) (hb : Rd w w.heap.size B (i64s xs)) (hc : Rd w w.heap.size C (i64s ys))
    (S' L' : Int) (A' : Option Addr) (n' c' : Nat) (B' : Option Addr) (m' d' : Nat) (C' : Option Addr) (q' f' : Nat) (zs' xs' ys' : List Int) (hz' : zs'.length = n' * 4) (hx' : xs'.length = m') (hy' : ys'.length = q') (hnc' : n' ≤ maxLen) (hmd' : m' ≤ maxLen) (hqf' : q' ≤ maxLen)
    (ha' : Rd w w.heap.size A' (i64s zs')) (hb' : Rd w w.heap.size B' (i64s xs')) (hc' : Rd w w.heap.size C' (i64s ys')) :
    Calls Try.prog 3 #[.agg #[.int .i64 S, .int .i64 L, .slice A n c, .slice B m d, .slice C q f], .agg #[.int .i64 S', .int .i64 L', .slice A' n' c', .slice B' m' d', .slice C' q' f']] w fun e w' => e = .returned (.bool true) ∧ Below w.heap.size w w' := by
  have HL := hid (show Lists w A B C zs xs ys from ⟨ha, hb, hc⟩)
  have HL' := hid (show Lists w A' B' C' zs' xs' ys' from ⟨ha', hb', hc'⟩)
  unfold maxLen at hnc hmd hqf hnc' hmd' hqf'
  have HS := hid (szMachine_calls S L A n c B m d C q f 1048576 (by omega) (by omega) (by omega) (by omega))
  have HS' := fun (l : Int) (h : 0 ≤ l ∧ l ≤ 1048576) => szMachine_calls S' L' A' n' c' B' m' d' C' q' f' l (by omega) (by omega) (by omega) h
  clear ha hb hc ha' hb' hc'
  have bb1 : (sameM S L zs xs ys S' L' zs' xs' ys' != sameM S L zs xs ys S' L' zs' xs' ys') = false := bne_self_eq_false _
  by_cases hl : leftM n m q 1048576 < 0
  · generalize leftM n m q 1048576 = l at *
    clear HS'
    go_enter Try.func3, Try.ntmps3
    go_wp2_with fail
    refine (HS.out _).mono ?_
    rintro e w1 ⟨rfl, bel1⟩
    have BEL := hid ((((Below.refl w.heap.size w).alloc (Nat.le_refl _) _).alloc (by simp) _).trans (bel1.mono (by simp; omega)))
    clear bel1
    go_wp2
    go_ret
    exact ⟨rfl, BEL.out⟩
  have hsm := leftM_range (by omega) hl
  have HF := hid (show Fits n m q zs xs ys from ⟨hz, hx, hy, hsm.2.2.1, hsm.2.2.2.1, hsm.2.2.2.2⟩)
  have hr := hsm.2.1
  have hr0 := hsm.1
  clear hsm hz hx hy
  generalize leftM n m q 1048576 = l at *
  have HS2 := hid (HS' l ⟨hr0, hr⟩)
  clear HS'
  by_cases hl' : leftM n' m' q' l < 0
  · generalize leftM n' m' q' l = l' at *
    go_enter Try.func3, Try.ntmps3
    go_wp2_with fail
    refine (HS.out _).mono ?_
    rintro e w1 ⟨rfl, bel1⟩
    have BEL := hid ((((Below.refl w.heap.size w).alloc (Nat.le_refl _) _).alloc (by simp) _).trans (bel1.mono (by simp; omega)))
    have hc := (old_cell bel1).1
    have PB1 := hid (show MachAt w1 (w.heap.size + 1) S' L' A' n' c' B' m' d' C' q' f' from ⟨by rw [hc _ _ (by simp)]; go_simp, by rw [hc _ _ (by simp)]; go_simp, by rw [hc _ _ (by simp)]; go_simp, by rw [hc _ _ (by simp)]; go_simp, by rw [hc _ _ (by simp)]; go_simp⟩)
    obtain ⟨b0, b1, b2, b3, b4⟩ := PB1.out
    clear bel1 hc
    go_wp2_with fail
    refine (HS2.out _).mono ?_
    rintro e w2 ⟨rfl, bel2⟩
    have BEL2 := hid (BEL.out.trans (bel2.mono BEL.out.size))
    clear bel2
    go_wp2
    go_ret
    exact ⟨rfl, BEL2.out⟩
  have hsm := leftM_range hr hl'
  have HF' := hid (show Fits n' m' q' zs' xs' ys' from ⟨hz', hx', hy', hsm.2.2.1, hsm.2.2.2.1, hsm.2.2.2.2⟩)
  clear hsm hz' hx' hy'
  generalize leftM n' m' q' l = l' at *
  have TP := hid (toM S L A n c B m d C q f zs xs ys HF.out)
  have TP' := hid (toM S' L' A' n' c' B' m' d' C' q' f' zs' xs' ys' HF'.out)
  go_enter Try.func3, Try.ntmps3
  go_wp2_with fail
  refine (HS.out _).mono ?_
  rintro e w1 ⟨rfl, bel1⟩
  have hz1 : w.heap.size + 2 ≤ w1.heap.size := by have := bel1.size; simp at this; omega
  have BEL1 := hid ((((Below.refl w.heap.size w).alloc (Nat.le_refl _) _).alloc (by simp) _).trans (bel1.mono (by simp; omega)))
  have hc := (old_cell bel1).1
  have PA1 := hid (show MachAt w1 w.heap.size S L A n c B m d C q f from ⟨by rw [hc _ _ (by simp; omega)]; go_simp, by rw [hc _ _ (by simp; omega)]; go_simp, by rw [hc _ _ (by simp; omega)]; go_simp, by rw [hc _ _ (by simp; omega)]; go_simp, by rw [hc _ _ (by simp; omega)]; go_simp⟩)
  have PB1 := hid (show MachAt w1 (w.heap.size + 1) S' L' A' n' c' B' m' d' C' q' f' from ⟨by rw [hc _ _ (by simp)]; go_simp, by rw [hc _ _ (by simp)]; go_simp, by rw [hc _ _ (by simp)]; go_simp, by rw [hc _ _ (by simp)]; go_simp, by rw [hc _ _ (by simp)]; go_simp⟩)
  clear hc bel1 HS
  obtain ⟨b0, b1, b2, b3, b4⟩ := PB1.out
  go_wp2_with fail
  refine (HS2.out _).mono ?_
  rintro e w2 ⟨rfl, bel2⟩
  have hz2 : w.heap.size + 2 ≤ w2.heap.size := by have := bel2.size; omega
  have BEL2 := hid (BEL1.out.trans (bel2.mono (by omega)))
  have PA2 := hid (PA1.out.step bel2 (by omega))
  have PB2 := hid (PB1.out.step bel2 (by omega))
  clear b0 b1 b2 b3 b4 bel2 HS2 BEL1 PA1 PB1
  go_wp2_with fail
  go_cut [6] from 20 to 24 (fun v wx => v = .bool (sameM S L zs xs ys S' L' zs' xs' ys') ∧ Hid (Below w2.heap.size w2 wx))
  case first =>
    obtain ⟨a0, a1, a2, a3, a4⟩ := PA2.out.drew
    obtain ⟨b0, b1, b2, b3, b4⟩ := PB2.out.drew
    have RA := hid (HL.out.step BEL2.out).drew
    have RA' := hid (HL'.out.step BEL2.out).drew
    have hzd : w.heap.size + 1 < w2.drew.heap.size := hz2
    go_region_with (first | (go_at_call_of 10 S; refine (TP.out _ RA.out).mono ?_; rintro e w3 ⟨g1, g2, g3, rfl, N1, bel3⟩; have x0 := ((old_cell bel3).1 _ 0 hzd).trans b0; have x1 := ((old_cell bel3).1 _ 1 hzd).trans b1; have x2 := ((old_cell bel3).1 _ 2 hzd).trans b2; have x3 := ((old_cell bel3).1 _ 3 hzd).trans b3; have x4 := ((old_cell bel3).1 _ 4 hzd).trans b4; have NN1 := hid N1.lists; have BEL3 := hid bel3; clear N1 bel3) | (go_at_call_of 10 S'; refine (TP'.out _ (RA'.out.step BEL3.out)).mono ?_; rintro e w4 ⟨g4, g5, g6, rfl, N2, bel4⟩; have NN2 := hid N2.lists; have BEL4 := hid bel4; clear N2 bel4) | (go_at_call 9; refine (specSame_calls S L _ n _ _ m _ _ q _ zs xs ys HF.out.z HF.out.x HF.out.y HF.out.n HF.out.m HF.out.q S' L' _ n' _ _ m' _ _ q' _ zs' xs' ys' HF'.out.z HF'.out.x HF'.out.y HF'.out.n HF'.out.m HF'.out.q _ (NN1.out.step BEL4.out).a (NN1.out.step BEL4.out).b (NN1.out.step BEL4.out).c NN2.out.a NN2.out.b NN2.out.c).mono ?_; rintro e w5 ⟨rfl, bel5⟩; have BEL5 := hid bel5; clear bel5))
    all_goals
      go_wp2_with fail
      go_meet
      case rel => exact ⟨rfl, (Below.refl w2.heap.size w2).drew.trans ((BEL3.out.trans (BEL4.out.mono BEL3.out.size)).trans (BEL5.out.mono (Nat.le_trans BEL3.out.size BEL4.out.size)))⟩
  case rest =>
    obtain ⟨rfl, bel5⟩ := hcut
    generalize wc = w5 at *
    have BELA := hid (BEL2.out.trans (bel5.out.mono (by omega)))
    have PA5 := hid (PA2.out.step bel5.out (by omega))
    have PB5 := hid (PB2.out.step bel5.out (by omega))
    have hz5 : w.heap.size + 2 ≤ w5.heap.size := by have := bel5.out.size; omega
    clear bel5 BEL2 PA2 PB2
    obtain ⟨a0, a1, a2, a3, a4⟩ := PA5.out
    go_wp2_with fail
    refine (TP.out _ (HL.out.step BELA.out)).mono ?_
    rintro e w6 ⟨g1, g2, g3, rfl, N1, bel6⟩
    have PA6 := hid (PA5.out.step bel6 (by omega))
    have PB6 := hid (PB5.out.step bel6 (by omega))
    have hz6 : w.heap.size + 2 ≤ w6.heap.size := by have := bel6.size; omega
    have BEL6 := hid (BELA.out.trans (bel6.mono BELA.out.size))
    have NN1 := hid N1.lists
    clear a0 a1 a2 a3 a4 bel6 BELA PA5 PB5 N1
    obtain ⟨b0, b1, b2, b3, b4⟩ := PB6.out
    have hz6' : w.heap.size + 1 < w6.heap.size := by omega
    have hz6n : ¬ w.heap.size + 1 = w6.heap.size := by omega
    go_wp2_with fail
    refine (TP'.out _ ((HL'.out.step BEL6.out).alloc _)).mono ?_
    rintro e w7 ⟨g4, g5, g6, rfl, N2, bel7⟩
    have hz7 : w6.heap.size + 1 ≤ w7.heap.size := by have := bel7.size; simp at this; omega
    have BEL7 := hid ((BEL6.out.alloc (by omega) _).trans (bel7.mono (by simp; omega)))
    have hc := (old_cell bel7).1
    have PX7 := hid (show MachAt w7 w6.heap.size S L (some ⟨g1, 0, none⟩) n n (some ⟨g2, 0, none⟩) m m (some ⟨g3, 0, none⟩) q q from ⟨by rw [hc _ _ (by simp)]; go_simp, by rw [hc _ _ (by simp)]; go_simp, by rw [hc _ _ (by simp)]; go_simp, by rw [hc _ _ (by simp)]; go_simp, by rw [hc _ _ (by simp)]; go_simp⟩)
    have PA7 := hid (show MachAt w7 w.heap.size S L A n c B m d C q f from (PA6.out.step ((Below.refl _ _).alloc (Nat.le_refl _) _) (by omega)).step bel7 (by simp; omega))
    have PB7 := hid (show MachAt w7 (w.heap.size + 1) S' L' A' n' c' B' m' d' C' q' f' from (PB6.out.step ((Below.refl _ _).alloc (Nat.le_refl _) _) (by omega)).step bel7 (by simp; omega))
    have RX7 := hid ((NN1.out.alloc _).step bel7)
    have NN2 := hid N2.lists
    clear b0 b1 b2 b3 b4 bel7 BEL6 PA6 PB6 NN1 N2 hc
    obtain ⟨x0, x1, x2, x3, x4⟩ := PX7.out
    have hz7' : w6.heap.size < w7.heap.size := by omega
    have hz7n : ¬ w6.heap.size = w7.heap.size := by omega
    go_wp2_with fail
    refine (implSame_calls S L _ n _ _ m _ _ q _ zs xs ys HF.out.z HF.out.x HF.out.y HF.out.n HF.out.m HF.out.q S' L' _ n' _ _ m' _ _ q' _ zs' xs' ys' HF'.out.z HF'.out.x HF'.out.y HF'.out.n HF'.out.m HF'.out.q _ (RX7.out.alloc _).a (RX7.out.alloc _).b (RX7.out.alloc _).c (NN2.out.alloc _).a (NN2.out.alloc _).b (NN2.out.alloc _).c).mono ?_
    rintro e w8 ⟨rfl, bel8⟩
    have hz8 : w7.heap.size + 1 ≤ w8.heap.size := by have := bel8.size; simp at this; omega
    have BEL8 := hid ((BEL7.out.alloc (by omega) _).trans (bel8.mono (by simp; omega)))
    have hc := (old_cell bel8).1
    have PY8 := hid (show MachAt w8 w7.heap.size S' L' (some ⟨g4, 0, none⟩) n' n' (some ⟨g5, 0, none⟩) m' m' (some ⟨g6, 0, none⟩) q' q' from ⟨by rw [hc _ _ (by simp)]; go_simp, by rw [hc _ _ (by simp)]; go_simp, by rw [hc _ _ (by simp)]; go_simp, by rw [hc _ _ (by simp)]; go_simp, by rw [hc _ _ (by simp)]; go_simp⟩)
    have PX8 := hid (show MachAt w8 w6.heap.size S L (some ⟨g1, 0, none⟩) n n (some ⟨g2, 0, none⟩) m m (some ⟨g3, 0, none⟩) q q from (PX7.out.step ((Below.refl _ _).alloc (Nat.le_refl _) _) (by omega)).step bel8 (by simp; omega))
    have PA8 := hid (show MachAt w8 w.heap.size S L A n c B m d C q f from (PA7.out.step ((Below.refl _ _).alloc (Nat.le_refl _) _) (by omega)).step bel8 (by simp; omega))
    have PB8 := hid (show MachAt w8 (w.heap.size + 1) S' L' A' n' c' B' m' d' C' q' f' from (PB7.out.step ((Below.refl _ _).alloc (Nat.le_refl _) _) (by omega)).step bel8 (by simp; omega))
    have RX8 := hid ((RX7.out.alloc _).step bel8)
    have RU8 := hid ((NN2.out.alloc _).step bel8)
    clear x0 x1 x2 x3 x4 bel8 hc BEL7 RX7 NN2 PX7 PA7 PB7
    go_wp2_with fail
    go_cut [39] from 35 to 39 (fun v wx => v = .bool false ∧ Hid (Below w8.heap.size w8 wx))
    case first =>
      have RXd := hid RX8.out.drew
      have RA8 := hid (HL.out.step BEL8.out).drew
      obtain ⟨a0, a1, a2, a3, a4⟩ := PA8.out.drew
      obtain ⟨x0, x1, x2, x3, x4⟩ := PX8.out.drew
      have hzx : w6.heap.size < w8.drew.heap.size := by have : w8.drew.heap.size = w8.heap.size := rfl; omega
      go_region_with (first | (go_at_call 10; refine (TP.out _ RA8.out).mono ?_; rintro e w9 ⟨g7, g8, g9, rfl, N9, bel9⟩; have y0 := ((old_cell bel9).1 _ 0 hzx).trans x0; have y1 := ((old_cell bel9).1 _ 1 hzx).trans x1; have y2 := ((old_cell bel9).1 _ 2 hzx).trans x2; have y3 := ((old_cell bel9).1 _ 3 hzx).trans x3; have y4 := ((old_cell bel9).1 _ 4 hzx).trans x4; have NN9 := hid N9.lists; have BEL9 := hid bel9; clear N9 bel9) | (go_at_call 12; refine (eqM S L _ n _ _ m _ _ q _ _ _ _ _ _ _ zs xs ys HF.out _ (RXd.out.step BEL9.out) NN9.out).mono ?_; rintro e w10 ⟨rfl, bel10⟩; have BEL10 := hid bel10; clear bel10))
      all_goals
        go_wp2_with fail
        go_meet
        case rel => exact ⟨rfl, (Below.refl w8.heap.size w8).drew.trans (BEL9.out.trans (BEL10.out.mono BEL9.out.size))⟩
    case rest =>
      obtain ⟨rfl, bel10⟩ := hcut
      generalize wc = w10 at *
      have PY10 := hid (PY8.out.step bel10.out (by omega))
      have PB10 := hid (PB8.out.step bel10.out (by omega))
      have hz10 : w7.heap.size + 1 ≤ w10.heap.size := by have := bel10.out.size; omega
      have BEL10 := hid (BEL8.out.trans (bel10.out.mono (by omega)))
      have RU10 := hid (RU8.out.step bel10.out)
      clear bel10 RX8 RU8 PX8 PA8 PB8 PY8 BEL8
      go_wp2_with fail
      go_cut [44] from 40 to 44 (fun v wx => v = .bool false ∧ Hid (Below w10.heap.size w10 wx))
      case first =>
        have RUd := hid RU10.out.drew
        have RA' := hid (HL'.out.step BEL10.out).drew
        obtain ⟨b0, b1, b2, b3, b4⟩ := PB10.out.drew
        obtain ⟨z0, z1, z2, z3, z4⟩ := PY10.out.drew
        have hzy : w7.heap.size < w10.drew.heap.size := hz10
        go_region_with (first | (go_at_call 10; refine (TP'.out _ RA'.out).mono ?_; rintro e w11 ⟨g7, g8, g9, rfl, N9, bel11⟩; have y0 := ((old_cell bel11).1 _ 0 hzy).trans z0; have y1 := ((old_cell bel11).1 _ 1 hzy).trans z1; have y2 := ((old_cell bel11).1 _ 2 hzy).trans z2; have y3 := ((old_cell bel11).1 _ 3 hzy).trans z3; have y4 := ((old_cell bel11).1 _ 4 hzy).trans z4; have NN9 := hid N9.lists; have BEL11 := hid bel11; clear N9 bel11) | (go_at_call 12; refine (eqM S' L' _ n' _ _ m' _ _ q' _ _ _ _ _ _ _ zs' xs' ys' HF'.out _ (RUd.out.step BEL11.out) NN9.out).mono ?_; rintro e w12 ⟨rfl, bel12⟩; have BEL12 := hid bel12; clear bel12))
        all_goals
          go_wp2_with fail
          go_meet
          case rel => exact ⟨rfl, (Below.refl w10.heap.size w10).drew.trans (BEL11.out.trans (BEL12.out.mono BEL11.out.size))⟩
      case rest =>
        obtain ⟨rfl, bel12⟩ := hcut
        have BEL12 := hid (BEL10.out.trans (bel12.out.mono (by omega)))
        go_wp2_with fail
        go_ret
        exact ⟨rfl, BEL12.out⟩
end Go.Proofs.Ytenfleceeeimlaa.fnExactSameMachine
