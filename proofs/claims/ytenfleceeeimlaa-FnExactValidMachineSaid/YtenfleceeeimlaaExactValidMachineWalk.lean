/-
  The law on ValidMachine.
-/
import Derived.Test.YtenfleceeeimlaaValidM
import Derived.Deep.RegionWith
import Derived.Deep.CutRange
namespace Go.Proofs.Ytenfleceeeimlaa.fnExactValidMachine
open Go.RowKit Go.Proofs.Fl Go.Proofs.Ytenfleceeeimlaa.Num
set_option linter.unusedVariables false
set_option linter.unusedSimpArgs false
set_option maxHeartbeats 1600000 in
theorem walk (S L : Int) (A : Option Addr) (n c : Nat) (B : Option Addr) (m d : Nat) (C : Option Addr) (q f : Nat) (zs xs ys : List Int) (hz : zs.length = n * 4) (hx : xs.length = m) (hy : ys.length = q) (hnc : n ≤ maxLen) (hmd : m ≤ maxLen) (hqf : q ≤ maxLen) {w : World}
    (ha : Rd w w.heap.size A (i64s zs)) (hb : Rd w w.heap.size B (i64s xs)) (hc : Rd w w.heap.size C (i64s ys)) :
    Calls Try.prog 4 #[.agg #[.int .i64 S, .int .i64 L, .slice A n c, .slice B m d, .slice C q f]] w fun e w' => e = .returned (.bool true) ∧ Below w.heap.size w w' := by
  have HL := hid (show Lists w A B C zs xs ys from ⟨ha, hb, hc⟩)
  unfold maxLen at hnc hmd hqf
  have HS := hid (szMachine_calls S L A n c B m d C q f 1048576 (by omega) (by omega) (by omega) (by omega))
  clear ha hb hc
  have bb1 : (validM S L n zs m xs q ys != validM S L n zs m xs q ys) = false := bne_self_eq_false _
  by_cases hl : leftM n m q 1048576 < 0
  · generalize leftM n m q 1048576 = l at *
    go_enter Try.func4, Try.ntmps4
    go_wp2_with fail
    refine (HS.out _).mono ?_
    rintro e w1 ⟨rfl, bel1⟩
    have BEL := hid (((Below.refl w.heap.size w).alloc (Nat.le_refl _) _).trans (bel1.mono (by simp)))
    clear bel1
    go_wp2
    go_ret
    exact ⟨rfl, BEL.out⟩
  have hsm := leftM_range (by omega) hl
  have HF := hid (show Fits n m q zs xs ys from ⟨hz, hx, hy, hsm.2.2.1, hsm.2.2.2.1, hsm.2.2.2.2⟩)
  clear hsm hz hx hy
  generalize leftM n m q 1048576 = l at *
  have TP := hid (toM S L A n c B m d C q f zs xs ys HF.out)
  go_enter Try.func4, Try.ntmps4
  go_wp2_with fail
  refine (HS.out _).mono ?_
  rintro e w1 ⟨rfl, bel1⟩
  have hc := (old_cell bel1).1
  have hz : w.heap.size < w1.heap.size := by have := bel1.size; simp at this; omega
  have BEL1 := hid (((Below.refl w.heap.size w).alloc (Nat.le_refl _) _).trans (bel1.mono (by simp)))
  have PA1 := hid (show MachAt w1 w.heap.size S L A n c B m d C q f from ⟨by rw [hc _ _ (by simp)]; go_simp, by rw [hc _ _ (by simp)]; go_simp, by rw [hc _ _ (by simp)]; go_simp, by rw [hc _ _ (by simp)]; go_simp, by rw [hc _ _ (by simp)]; go_simp⟩)
  clear hc bel1 HS
  obtain ⟨a0, a1, a2, a3, a4⟩ := PA1.out
  go_wp2_with fail
  refine (TP.out _ (HL.out.step BEL1.out)).mono ?_
  rintro e w2 ⟨g1, g2, g3, rfl, N1, bel2⟩
  have BEL2 := hid (BEL1.out.trans (bel2.mono BEL1.out.size))
  have hz2 : w.heap.size < w2.heap.size := by have := bel2.size; omega
  have PA2 := hid (PA1.out.step bel2 hz)
  have NN1 := hid N1.lists
  clear bel2 BEL1 N1 PA1 a0 a1 a2 a3 a4
  go_wp2_with fail
  refine (specValid_calls S L _ n _ _ m _ _ q _ zs xs ys HF.out _ NN1.out).mono ?_
  rintro e w4 ⟨rfl, bel4⟩
  have BEL4 := hid (BEL2.out.trans (bel4.mono BEL2.out.size))
  have hz4 : w.heap.size < w4.heap.size := by have := bel4.size; omega
  have PA4 := hid (PA2.out.step bel4 hz2)
  obtain ⟨a0, a1, a2, a3, a4⟩ := PA4.out
  clear bel4 BEL2 NN1 PA2
  go_wp2_with fail
  refine (TP.out _ (HL.out.step BEL4.out)).mono ?_
  rintro e w5 ⟨g4, g5, g6, rfl, N2, bel5⟩
  have BEL5 := hid (BEL4.out.trans (bel5.mono BEL4.out.size))
  have hz5 : w.heap.size < w5.heap.size := by have := bel5.size; omega
  have PA5 := hid (PA4.out.step bel5 hz4)
  have NN2 := hid N2.lists
  clear bel5 BEL4 N2 PA4 a0 a1 a2 a3 a4
  go_wp2_with fail
  refine (implValid_calls S L _ n _ _ m _ _ q _ zs xs ys HF.out _ (NN2.out.alloc _)).mono ?_
  rintro e w7 ⟨rfl, bel7⟩
  have hz7 : w5.heap.size < w7.heap.size := by have := bel7.size; simp at this; omega
  have BEL7 := hid ((BEL5.out.alloc (by omega) _).trans (bel7.mono (by simp; omega)))
  have hc := (old_cell bel7).1
  have PX7 := hid (show MachAt w7 w5.heap.size S L (some ⟨g4, 0, none⟩) n n (some ⟨g5, 0, none⟩) m m (some ⟨g6, 0, none⟩) q q from ⟨by rw [hc _ _ (by simp)]; go_simp, by rw [hc _ _ (by simp)]; go_simp, by rw [hc _ _ (by simp)]; go_simp, by rw [hc _ _ (by simp)]; go_simp, by rw [hc _ _ (by simp)]; go_simp⟩)
  have PA7 := hid (show MachAt w7 w.heap.size S L A n c B m d C q f from (PA5.out.step ((Below.refl _ _).alloc (Nat.le_refl _) _) (by omega)).step bel7 (by simp; omega))
  have RX7 := hid ((NN2.out.alloc _).step bel7)
  clear hc bel7 NN2 PA5
  go_wp2_with fail
  go_cut [26] from 22 to 26 (fun v wx => v = .bool false ∧ Hid (Below w7.heap.size w7 wx))
  case first =>
    have RXd := hid RX7.out.drew
    have RA8 := hid (HL.out.step BEL7.out).drew
    obtain ⟨a0, a1, a2, a3, a4⟩ := PA7.out.drew
    obtain ⟨x0, x1, x2, x3, x4⟩ := PX7.out.drew
    have hzx : w5.heap.size < w7.drew.heap.size := hz7
    go_region_with (first | (go_at_call 10; refine (TP.out _ RA8.out).mono ?_; rintro e w9 ⟨g7, g8, g9, rfl, N9, bel9⟩; have y0 := ((old_cell bel9).1 _ 0 hzx).trans x0; have y1 := ((old_cell bel9).1 _ 1 hzx).trans x1; have y2 := ((old_cell bel9).1 _ 2 hzx).trans x2; have y3 := ((old_cell bel9).1 _ 3 hzx).trans x3; have y4 := ((old_cell bel9).1 _ 4 hzx).trans x4; have NN9 := hid N9.lists; have BEL9 := hid bel9; clear N9 bel9) | (go_at_call 12; refine (eqM S L _ n _ _ m _ _ q _ _ _ _ _ _ _ zs xs ys HF.out _ (RXd.out.step BEL9.out) NN9.out).mono ?_; rintro e w10 ⟨rfl, bel10⟩; have BEL10 := hid bel10; clear bel10))
    all_goals
      go_wp2_with fail
      go_meet
      case rel => exact ⟨rfl, (Below.refl w7.heap.size w7).drew.trans (BEL9.out.trans (BEL10.out.mono BEL9.out.size))⟩
  case rest =>
    obtain ⟨rfl, bel10⟩ := hcut
    have BEL10 := hid (BEL7.out.trans (bel10.out.mono (by omega)))
    go_wp2_with fail
    go_ret
    exact ⟨rfl, BEL10.out⟩
end Go.Proofs.Ytenfleceeeimlaa.fnExactValidMachine
