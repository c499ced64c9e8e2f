/-
  The law on MeetOf.
-/
import Derived.Test.YtenfleceeeimlaaMeetImpl
import Derived.Test.YtenfleceeeimlaaMeetLaw
namespace Go.Proofs.Ytenfleceeeimlaa.fnExactMeetOf
open Go.RowKit Go.Proofs.Fl Go.Proofs.Ytenfleceeeimlaa.Num
open Go.Proofs.Ytenfleceeeimlaa.fnExactEndCosts (valid_ends)
open Go.Proofs.Ytenfleceeeimlaa.fnExactBackOf (RetBM valid_marks)
set_option linter.unusedVariables false
set_option linter.unusedSimpArgs false
theorem rd_of {w w' : World} {A : Option Addr} {xs : List Value} (h : Rd w w.heap.size A xs) (b : Below w.heap.size w w') : Rd w' w'.heap.size A xs := rd_step h b
set_option maxHeartbeats 3200000 in
theorem walk' (S L : Int) (A : Option Addr) (n c : Nat) (B : Option Addr) (m d : Nat) (C : Option Addr) (q f : Nat) (zs xs ys : List Int) (hz : zs.length = n * 4) (hx : xs.length = m) (hy : ys.length = q) (hnc : n ≤ maxLen) (hmd : m ≤ maxLen) (hqf : q ≤ maxLen) {w : World}
    (ha : Rd w w.heap.size A (i64s zs)) (hb : Rd w w.heap.size B (i64s xs)) (hc : Rd w w.heap.size C (i64s ys))
    (S' L' : Int) (A' : Option Addr) (n' c' : Nat) (B' : Option Addr) (m' d' : Nat) (C' : Option Addr) (q' f' : Nat) (zs' xs' ys' : List Int) (hz' : zs'.length = n' * 4) (hx' : xs'.length = m') (hy' : ys'.length = q') (hnc' : n' ≤ maxLen) (hmd' : m' ≤ maxLen) (hqf' : q' ≤ maxLen)
    (ha' : Rd w w.heap.size A' (i64s zs')) (hb' : Rd w w.heap.size B' (i64s xs')) (hc' : Rd w w.heap.size C' (i64s ys')) :
    Calls Try.prog 7 #[.agg #[.int .i64 S, .int .i64 L, .slice A n c, .slice B m d, .slice C q f], .agg #[.int .i64 S', .int .i64 L', .slice A' n' c', .slice B' m' d', .slice C' q' f']] w fun e w' => e = .returned (.bool true) ∧ Below w.heap.size w w' := by
  have g1 := hnc
  have g2 := hmd
  have g3 := hqf
  have g1' := hnc'
  have g2' := hmd'
  have g3' := hqf'
  unfold maxLen at g1 g2 g3 g1' g2' g3'
  by_cases hl : leftM n m q 1048576 < 0
  · have HS := hid (szMachine_calls S L A n c B m d C q f 1048576 (by omega) (by omega) (by omega) (by omega))
    clear ha hb hc ha' hb' hc'
    generalize leftM n m q 1048576 = l at *
    go_enter Try.func7, Try.ntmps7
    go_wp2_with fail
    refine (HS.out _).mono ?_
    rintro e w1 ⟨rfl, bel1⟩
    have BEL := hid ((((Below.refl w.heap.size w).alloc (Nat.le_refl _) _).alloc (by simp) _).trans (bel1.mono (by simp; omega)))
    clear bel1
    go_wp2
    go_ret
    exact ⟨rfl, BEL.out⟩
  have hsm := leftM_range (by omega) hl
  by_cases hl' : leftM n' m' q' (leftM n m q 1048576) < 0
  · have HS := hid (szMachine_calls S L A n c B m d C q f 1048576 (by omega) (by omega) (by omega) (by omega))
    have HS2 := hid (szMachine_calls S' L' A' n' c' B' m' d' C' q' f' (leftM n m q 1048576) (by omega) (by omega) (by omega) ⟨hsm.1, hsm.2.1⟩)
    clear ha hb hc ha' hb' hc' hsm
    generalize leftM n m q 1048576 = l at *
    generalize leftM n' m' q' l = l2 at *
    go_enter Try.func7, Try.ntmps7
    go_wp2_with fail
    refine (HS.out _).mono ?_
    rintro e w1 ⟨rfl, bel1⟩
    have s1 : w.heap.size + 2 ≤ w1.heap.size := by have := bel1.size; simp at this; omega
    have BEL := hid ((((Below.refl w.heap.size w).alloc (Nat.le_refl _) _).alloc (by simp) _).trans (bel1.mono (by simp; omega)))
    have hcc := (old_cell bel1).1
    obtain ⟨b0, b1, b2, b3, b4⟩ := show MachAt w1 (w.heap.size + 1) S' L' A' n' c' B' m' d' C' q' f' from ⟨by rw [hcc _ _ (by simp)]; go_simp, by rw [hcc _ _ (by simp)]; go_simp, by rw [hcc _ _ (by simp)]; go_simp, by rw [hcc _ _ (by simp)]; go_simp, by rw [hcc _ _ (by simp)]; go_simp⟩
    clear hcc bel1
    go_wp2_with fail
    refine (HS2.out _).mono ?_
    rintro e w2 ⟨rfl, bel2⟩
    have BEL2 := hid (BEL.out.trans (bel2.mono (by omega)))
    clear bel2
    go_wp2
    go_ret
    exact ⟨rfl, BEL2.out⟩
  have hsm' := leftM_range hsm.2.1 hl'
  have HF : Fits n m q zs xs ys := ⟨hz, hx, hy, hsm.2.2.1, hsm.2.2.2.1, hsm.2.2.2.2⟩
  have HF' : Fits n' m' q' zs' xs' ys' := ⟨hz', hx', hy', hsm'.2.2.1, hsm'.2.2.2.1, hsm'.2.2.2.2⟩
  have HL : Lists w A B C zs xs ys := ⟨ha, hb, hc⟩
  have HL' : Lists w A' B' C' zs' xs' ys' := ⟨ha', hb', hc'⟩
  have hnil : Fits 0 0 0 [] [] [] := ⟨rfl, rfl, rfl, by omega, by omega, by omega⟩
  have hS0 : validM S L n zs m xs q ys = true → validM S' L' n' zs' m' xs' q' ys' = true → 0 ≤ S * S' ∧ S * S' ≤ 256 := fun v1 v2 => by
    obtain ⟨_, _, _, a1, a2, a3⟩ := valid_ends hy v1
    obtain ⟨_, _, _, b1, b2, b3⟩ := valid_ends hy' v2
    subst a3 b3
    refine ⟨Int.mul_nonneg (by omega) (by omega), ?_⟩
    have := Int.mul_le_mul (show (q : Int) ≤ 16 by omega) (show (q' : Int) ≤ 16 by omega) (by omega) (by omega)
    omega
  by_cases hT : (twoOk S L n zs m xs q ys S' L' n' zs' m' xs' q' ys' && noE zs n && noE zs' n') = true
  · have hT2 := hT
    unfold twoOk at hT2
    simp only [Bool.and_eq_true, decide_eq_true_eq] at hT2
    obtain ⟨⟨⟨⟨v1, v2⟩, hLL⟩, e1⟩, e2⟩ := hT2
    have hmm := hS0 v1 v2
    cases hQ : meetOk S L n zs m xs q ys S' L' n' zs' m' xs' q' ys'
    · by_cases h16 : S * S' ≤ 16
      · exact walk S L A n c B m d C q f zs xs ys HF S' L' A' n' c' B' m' d' C' q' f' zs' xs' ys' HF' hl hl' ⟨hsm.1, hsm.2.1⟩ HL HL' 0 0 0 0 0 [] [] [] false hnil
          (fun A c B d C f A' c' B' d' C' f' w hl hl' => spec_met S L A n c B m d C q f zs xs ys HF S' L' A' n' c' B' m' d' C' q' f' zs' xs' ys' HF' v1 v2 hLL e1 e2 w hl hl' false hQ)
          (fun A c B d C f A' c' B' d' C' f' w hl hl' => impl_met S L A n c B m d C q f zs xs ys HF S' L' A' n' c' B' m' d' C' q' f' zs' xs' ys' HF' v1 v2 hLL e1 e2 h16 w hl hl' false hQ)
      · exact walk S L A n c B m d C q f zs xs ys HF S' L' A' n' c' B' m' d' C' q' f' zs' xs' ys' HF' hl hl' ⟨hsm.1, hsm.2.1⟩ HL HL' 0 0 0 0 0 [] [] [] false hnil
          (fun A c B d C f A' c' B' d' C' f' w hl hl' => spec_met S L A n c B m d C q f zs xs ys HF S' L' A' n' c' B' m' d' C' q' f' zs' xs' ys' HF' v1 v2 hLL e1 e2 w hl hl' false hQ)
          (fun A c B d C f A' c' B' d' C' f' w hl hl' => impl_no S L A n c B m d C q f zs xs ys HF S' L' A' n' c' B' m' d' C' q' f' zs' xs' ys' HF' w hl hl' hS0 (by rw [decide_eq_false h16, Bool.and_false]))
    · have h16 : S * S' ≤ 16 := by
        unfold meetOk at hQ
        have h := valid_ends rfl hQ
        have h1 := h.2.2.2.1
        have h2 := h.2.2.2.2.2
        omega
      have hl1 : (pairsOf xs xs').length ≤ 1048576 := by
        obtain ⟨_, _, _, a1, a2, a3⟩ := valid_ends hy v1
        obtain ⟨_, _, _, b1, b2, b3⟩ := valid_ends hy' v2
        have a4 := (valid_marks v1).2.2.2.1
        have b4 := (valid_marks v2).2.2.2.1
        rw [pairsOf_len, hx, hx']
        have := Nat.mul_le_mul (show m ≤ 16 by omega) (show m' ≤ 16 by omega)
        omega
      have hl2 : (pairsOf ys ys').length ≤ 1048576 := by
        obtain ⟨_, _, _, a1, a2, a3⟩ := valid_ends hy v1
        obtain ⟨_, _, _, b1, b2, b3⟩ := valid_ends hy' v2
        rw [pairsOf_len, hy, hy']
        have := Nat.mul_le_mul (show q ≤ 16 by omega) (show q' ≤ 16 by omega)
        omega
      have hcn : cM zs zs' S' n' n 0 ≤ 1048576 := by
        obtain ⟨_, _, a0, _⟩ := valid_ends hy v1
        obtain ⟨_, _, b0, _⟩ := valid_ends hy' v2
        have h1 := accM_le zs zs' S' n' n 0
        have h2 := Nat.mul_le_mul (show n ≤ 128 by omega) (show n' ≤ 128 by omega)
        omega
      exact walk S L A n c B m d C q f zs xs ys HF S' L' A' n' c' B' m' d' C' q' f' zs' xs' ys' HF' hl hl' ⟨hsm.1, hsm.2.1⟩ HL HL' (S * S') L (cM zs zs' S' n' n 0) (pairsOf xs xs').length (pairsOf ys ys').length (accM zs zs' S' n' n 0) (pairsOf xs xs') (pairsOf ys ys') true ⟨accM_four _ _ _ _ _ _, rfl, rfl, hcn, hl1, hl2⟩
        (fun A c B d C f A' c' B' d' C' f' w hl hl' => spec_met S L A n c B m d C q f zs xs ys HF S' L' A' n' c' B' m' d' C' q' f' zs' xs' ys' HF' v1 v2 hLL e1 e2 w hl hl' true hQ)
        (fun A c B d C f A' c' B' d' C' f' w hl hl' => impl_met S L A n c B m d C q f zs xs ys HF S' L' A' n' c' B' m' d' C' q' f' zs' xs' ys' HF' v1 v2 hLL e1 e2 h16 w hl hl' true hQ)
  · have hT1 := Bool.eq_false_iff.2 hT
    exact walk S L A n c B m d C q f zs xs ys HF S' L' A' n' c' B' m' d' C' q' f' zs' xs' ys' HF' hl hl' ⟨hsm.1, hsm.2.1⟩ HL HL' 0 0 0 0 0 [] [] [] false hnil
      (fun A c B d C f A' c' B' d' C' f' w hl hl' => spec_no S L A n c B m d C q f zs xs ys HF S' L' A' n' c' B' m' d' C' q' f' zs' xs' ys' HF' w hl hl' hT1)
      (fun A c B d C f A' c' B' d' C' f' w hl hl' => impl_no S L A n c B m d C q f zs xs ys HF S' L' A' n' c' B' m' d' C' q' f' zs' xs' ys' HF' w hl hl' hS0 (by unfold twoOk at hT1; rw [hT1, Bool.false_and]))
end Go.Proofs.Ytenfleceeeimlaa.fnExactMeetOf
