/-
  The law on ValidPlain.
-/
import Derived.Test.YtlfmcdobiojdlaaSpecValid
import Derived.Deep.RegionWith
namespace Go.Proofs.Ytlfmcdobiojdlaa.fnExactValidPlain
open Go.RowKit Go.Proofs.Fl Go.Proofs.Ytlfmcdobiojdlaa.Num
set_option linter.unusedVariables false
set_option linter.unusedSimpArgs false
theorem left_small {n m : Nat} (h : ¬ leftP n m 1048576 < 0) : n ≤ 1048576 ∧ m ≤ 1048576 := by
  unfold leftP leftI at h
  split at h
  · omega
  · split at h
    · omega
    · omega
set_option maxHeartbeats 1600000 in
theorem walk (S L : Int) (A : Option Addr) (n c : Nat) (B : Option Addr) (m d : Nat) (xs : List Int) (bs : List Bool) (hx : xs.length = n) (hb : bs.length = m) (hnc : n ≤ maxLen) (hmd : m ≤ maxLen) {w : World} (ha : Rd w w.heap.size A (i64s xs)) (hbs : Rd w w.heap.size B (bools bs)) :
    Calls Try.prog 4 #[.agg #[.int .i64 S, .int .i64 L, .slice A n c, .slice B m d]] w fun e w' => e = .returned (.bool true) ∧ Below w.heap.size w w' := by
  have HX := hid hx
  have HB := hid hb
  have HA := hid ha
  have HBS := hid hbs
  unfold maxLen at hnc hmd
  have HS := hid (szPlain_calls S L A n c B m d 1048576 (by omega) (by omega) (by omega))
  clear hx hb ha hbs
  have hbb : (validP S L n xs m != validP S L n xs m) = false := bne_self_eq_false _
  by_cases hl : leftP n m 1048576 < 0
  · generalize leftP n m 1048576 = l at *
    go_enter Try.func4, Try.ntmps4
    go_wp2_with fail
    refine (HS.out _).mono ?_
    rintro e w1 ⟨rfl, bel1⟩
    have BEL := hid (((Below.refl w.heap.size w).alloc (Nat.le_refl _) _).trans (bel1.mono (by simp)))
    clear bel1
    go_wp2
    go_ret
    exact ⟨rfl, BEL.out⟩
  · have hsm := left_small hl
    have hn := hsm.1
    have hm := hsm.2
    clear hsm
    generalize leftP n m 1048576 = l at *
    go_enter Try.func4, Try.ntmps4
    go_wp2_with fail
    refine (HS.out _).mono ?_
    rintro e w1 ⟨rfl, bel1⟩
    obtain ⟨hc, hf⟩ := old_cell bel1
    have hz : w.heap.size < w1.heap.size := by have := bel1.size; simp at this; omega
    have BEL1 := hid (((Below.refl w.heap.size w).alloc (Nat.le_refl _) _).trans (bel1.mono (by simp)))
    have a0 : w1.cell? ⟨w.heap.size, 0, none⟩ = some (.int .i64 S) := by rw [hc _ _ (by simp)]; go_simp
    have a1 : w1.cell? ⟨w.heap.size, 1, none⟩ = some (.int .i64 L) := by rw [hc _ _ (by simp)]; go_simp
    have a2 : w1.cell? ⟨w.heap.size, 2, none⟩ = some (.slice A n c) := by rw [hc _ _ (by simp)]; go_simp
    have a3 : w1.cell? ⟨w.heap.size, 3, none⟩ = some (.slice B m d) := by rw [hc _ _ (by simp)]; go_simp
    clear hc hf bel1 HS
    go_wp2_with fail
    refine (toPlain_calls S L A n c B m d xs bs HX.out HB.out hn hm _ (rd_step HA.out BEL1.out) (rd_step HBS.out BEL1.out)).mono ?_
    rintro e w2 ⟨g1, g2, rfl, R1, R2, bel2⟩
    have BEL2 := hid (BEL1.out.trans (bel2.mono BEL1.out.size))
    have hz2 : w.heap.size < w2.heap.size := by have := bel2.size; omega
    obtain ⟨hc, hf⟩ := old_cell bel2
    rw [← hc _ _ hz] at a0 a1 a2 a3
    have RR1 := hid R1
    clear hc hf bel2 BEL1 R1 R2
    go_wp2_with fail
    refine (specValid_calls S L _ n _ _ m _ xs HX.out hn hm _ RR1.out).mono ?_
    rintro e w3 ⟨rfl, bel3⟩
    have BEL3 := hid (BEL2.out.trans (bel3.mono BEL2.out.size))
    have hz3 : w.heap.size < w3.heap.size := by have := bel3.size; omega
    obtain ⟨hc, hf⟩ := old_cell bel3
    rw [← hc _ _ hz2] at a0 a1 a2 a3
    clear hc hf bel3 BEL2 RR1
    go_wp2_with fail
    refine (toPlain_calls S L A n c B m d xs bs HX.out HB.out hn hm _ (rd_step HA.out BEL3.out) (rd_step HBS.out BEL3.out)).mono ?_
    rintro e w4 ⟨g3, g4, rfl, R3, R4, bel4⟩
    have BEL4 := hid (BEL3.out.trans (bel4.mono BEL3.out.size))
    have hz4 : w.heap.size < w4.heap.size := by have := bel4.size; omega
    obtain ⟨hc, hf⟩ := old_cell bel4
    rw [← hc _ _ hz3] at a0 a1 a2 a3
    have RR3 := hid R3
    have RR4 := hid R4
    clear hc hf bel4 BEL3 R3 R4
    go_wp2_with fail
    refine (implValid_calls S L _ n _ _ m _ xs HX.out hn hm _ (rd_alloc RR3.out _)).mono ?_
    rintro e w5 ⟨rfl, bel5⟩
    have BEL5 := hid ((BEL4.out.alloc (by omega) _).trans (bel5.mono (by simp; omega)))
    have hz5 : w4.heap.size < w5.heap.size := by have := bel5.size; simp at this; omega
    obtain ⟨hc, hf⟩ := old_cell bel5
    have e0 : w5.cell? ⟨w4.heap.size, 0, none⟩ = some (.int .i64 S) := by rw [hc _ _ (by simp)]; go_simp
    have e1 : w5.cell? ⟨w4.heap.size, 1, none⟩ = some (.int .i64 L) := by rw [hc _ _ (by simp)]; go_simp
    have e2 : w5.cell? ⟨w4.heap.size, 2, none⟩ = some (.slice (some ⟨g3, 0, none⟩) n n) := by rw [hc _ _ (by simp)]; go_simp
    have e3 : w5.cell? ⟨w4.heap.size, 3, none⟩ = some (.slice (some ⟨g4, 0, none⟩) m m) := by rw [hc _ _ (by simp)]; go_simp
    have a0' : w5.cell? ⟨w.heap.size, 0, none⟩ = some (.int .i64 S) := by rw [hc _ _ (by simp; omega)]; go_simp
    have a1' : w5.cell? ⟨w.heap.size, 1, none⟩ = some (.int .i64 L) := by rw [hc _ _ (by simp; omega)]; go_simp
    have a2' : w5.cell? ⟨w.heap.size, 2, none⟩ = some (.slice A n c) := by rw [hc _ _ (by simp; omega)]; go_simp
    have a3' : w5.cell? ⟨w.heap.size, 3, none⟩ = some (.slice B m d) := by rw [hc _ _ (by simp; omega)]; go_simp
    have RR5 := hid (rd_step (rd_alloc RR3.out _) bel5)
    have RR6 := hid (rd_step (rd_alloc RR4.out _) bel5)
    clear hc hf bel5 BEL4 RR3 RR4 a0 a1 a2 a3
    go_wp2_with fail
    have e0d := (show w5.drew.cell? ⟨w4.heap.size, 0, none⟩ = _ from e0)
    have a0d := (show w5.drew.cell? ⟨w.heap.size, 0, none⟩ = _ from a0')
    have e1d := (show w5.drew.cell? ⟨w4.heap.size, 1, none⟩ = _ from e1)
    have a1d := (show w5.drew.cell? ⟨w.heap.size, 1, none⟩ = _ from a1')
    have e2d := (show w5.drew.cell? ⟨w4.heap.size, 2, none⟩ = _ from e2)
    have a2d := (show w5.drew.cell? ⟨w.heap.size, 2, none⟩ = _ from a2')
    have e3d := (show w5.drew.cell? ⟨w4.heap.size, 3, none⟩ = _ from e3)
    have a3d := (show w5.drew.cell? ⟨w.heap.size, 3, none⟩ = _ from a3')
    go_region_with (first | (go_at_call 19; refine (toPlain_calls S L A n c B m d xs bs HX.out HB.out hn hm _ ((rd_step HA.out BEL5.out).drewN _) ((rd_step HBS.out BEL5.out).drewN _)).mono ?_; rintro e w6 ⟨g5, g6, rfl, R7, R8, bel6⟩; have x0 := ((old_cell bel6).1 _ 0 hz5).trans e0; have x1 := ((old_cell bel6).1 _ 1 hz5).trans e1; have x2 := ((old_cell bel6).1 _ 2 hz5).trans e2; have x3 := ((old_cell bel6).1 _ 3 hz5).trans e3; have RR7 := hid R7; have RR8 := hid R8; have BEL6 := hid bel6; clear R7 R8 bel6) | (go_at_call 21; refine (eqPlain_yes S L _ n _ _ m _ _ _ _ _ xs bs HX.out HB.out hn hm _ (((RR5.out.drewN _).below BEL6.out).more BEL6.out.size) (((RR6.out.drewN _).below BEL6.out).more BEL6.out.size) RR7.out RR8.out).mono ?_; rintro e w7 ⟨rfl, bel7⟩; have BEL7 := hid bel7; clear bel7))
    all_goals
      go_wp2_with fail
      go_ret
      exact ⟨rfl, (BEL5.out.drew.trans (BEL6.out.mono BEL5.out.size)).trans (BEL7.out.mono (Nat.le_trans BEL5.out.size BEL6.out.size))⟩
end Go.Proofs.Ytlfmcdobiojdlaa.fnExactValidPlain
