/-
  MeetOf, by both texts, where the machines can not be met.
-/
import Derived.Test.YtenfleceeeimlaaMeetSpec
namespace Go.Proofs.Ytenfleceeeimlaa.fnExactMeetOf
open Go.RowKit Go.Proofs.Fl Go.Proofs.Ytenfleceeeimlaa.Num
open Go.Proofs.Ytenfleceeeimlaa.fnExactBackOf (RetBM ownM_nil within_nil)
set_option linter.unusedVariables false
set_option linter.unusedSimpArgs false
section
variable (S L : Int) (A : Option Addr) (n c : Nat) (B : Option Addr) (m d : Nat) (C : Option Addr) (q f : Nat) (zs xs ys : List Int) (hF : Fits n m q zs xs ys)
  (S' L' : Int) (A' : Option Addr) (n' c' : Nat) (B' : Option Addr) (m' d' : Nat) (C' : Option Addr) (q' f' : Nat) (zs' xs' ys' : List Int) (hF' : Fits n' m' q' zs' xs' ys')
include hF hF'
set_option maxHeartbeats 6400000 in
theorem spec_no (w : World) (hl : Lists w A B C zs xs ys) (hl' : Lists w A' B' C' zs' xs' ys')
    (h : (twoOk S L n zs m xs q ys S' L' n' zs' m' xs' q' ys' && noE zs n && noE zs' n') = false) :
    Calls Try.prog 24 #[.agg #[.int .i64 S, .int .i64 L, .slice A n c, .slice B m d, .slice C q f], .agg #[.int .i64 S', .int .i64 L', .slice A' n' c', .slice B' m' d', .slice C' q' f']] w (RetBM 0 0 0 0 0 [] [] [] false w) := by
  have HL := hid hl
  have HL' := hid hl'
  have HT := hid fun (b b' : Nat) (w : World) hp hp' hb hb' hl hl' => l02Two_calls S L A n c B m d C q f zs xs ys hF S' L' A' n' c' B' m' d' C' q' f' zs' xs' ys' hF' b b' w hp hp' hb hb' hl hl'
  have HE1 := hid fun b w hp ha => lettered_G b S L A n c B m d C q f zs hF.z hF.n w hp ha
  have HE2 := hid fun b w hp ha => lettered_G b S' L' A' n' c' B' m' d' C' q' f' zs' hF'.z hF'.n w hp ha
  have H := hid h
  clear hF hF' hl hl' h
  generalize twoOk S L n zs m xs q ys S' L' n' zs' m' xs' q' ys' = V1 at *
  generalize noE zs n = E1 at *
  generalize noE zs' n' = E2 at *
  go_enter Try.func24, Try.ntmps24
  go_wp2_with fail
  refine (HT.out w.heap.size (w.heap.size + 1) _ ⟨by go_simp, by go_simp, by go_simp, by go_simp, by go_simp⟩ ⟨by go_simp, by go_simp, by go_simp, by go_simp, by go_simp⟩ (by simp; omega) (by simp) (((HL.out.alloc _).alloc _).alloc _) (((HL'.out.alloc _).alloc _).alloc _)).mono ?_
  rintro e w1 ⟨rfl, bel1⟩
  have hc := (old_cell bel1).1
  have hf := (old_cell bel1).2
  have s1 : w.heap.size + 3 ≤ w1.heap.size := by have := bel1.size; simp at this; omega
  have BEL := hid ((((Below.refl w.heap.size w).alloc (Nat.le_refl _) _).alloc (by simp) _).alloc (by simp; omega) _ |>.trans (bel1.mono (by simp; omega)))
  have PA := hid (show MachAt w1 (w.heap.size) S L A n c B m d C q f from ⟨by rw [hc _ _ (by simp; omega)]; go_simp, by rw [hc _ _ (by simp; omega)]; go_simp, by rw [hc _ _ (by simp; omega)]; go_simp, by rw [hc _ _ (by simp; omega)]; go_simp, by rw [hc _ _ (by simp; omega)]; go_simp⟩)
  have PB := hid (show MachAt w1 (w.heap.size + 1) S' L' A' n' c' B' m' d' C' q' f' from ⟨by rw [hc _ _ (by simp)]; go_simp, by rw [hc _ _ (by simp)]; go_simp, by rw [hc _ _ (by simp)]; go_simp, by rw [hc _ _ (by simp)]; go_simp, by rw [hc _ _ (by simp)]; go_simp⟩)
  have PZ := hid (show MachAt w1 (w.heap.size + 2) 0 0 none 0 0 none 0 0 none 0 0 from ⟨by rw [hc _ _ (by simp)]; go_simp, by rw [hc _ _ (by simp)]; go_simp, by rw [hc _ _ (by simp)]; go_simp, by rw [hc _ _ (by simp)]; go_simp, by rw [hc _ _ (by simp)]; go_simp⟩)
  have FZ := hid (show ∀ o, w1.frozen? ⟨w.heap.size + 2, o, none⟩ = false from fun o => by rw [hf _ _ (by simp)]; go_simp)
  clear hc hf bel1
  obtain ⟨a0, a1, a2, a3, a4⟩ := PA.out
  obtain ⟨b0, b1, b2, b3, b4⟩ := PB.out
  obtain ⟨k0, k1, k2, k3, k4⟩ := PZ.out
  have fz := FZ.out
  have j0 := fz 0
  have j1 := fz 1
  have j2 := fz 2
  have j3 := fz 3
  have j4 := fz 4
  clear fz
  cases V1
  · skip
    go_wp2_with fail
    exact bodyPost_ret (v := .tuple #[.agg #[.int .i64 0, .int .i64 0, .slice none 0 0, .slice none 0 0, .slice none 0 0], .bool false]) (by simp [results, Try.results24, go_sem, k0, k1, k2, k3, k4]) rfl
      ⟨none, 0, none, 0, none, 0, rfl, ownM_nil _, within_nil _ _, (((((BEL.out.setCell (by simp; omega) _).setCell (by simp; omega) _).setCell (by simp; omega) _).setCell (by simp; omega) _).setCell (by simp; omega) _)⟩
  · skip
    go_wp2_with fail
    refine (HE1.out w.heap.size _ PA.out (HL.out.step BEL.out).a).mono ?_
    rintro e w2 ⟨rfl, bel⟩
    have tw2 := bel.size
    replace BEL := hid (BEL.out.trans (bel.mono (by omega)))
    replace PA := hid (PA.out.step bel (by omega))
    replace PB := hid (PB.out.step bel (by omega))
    replace PZ := hid (PZ.out.step bel (by omega))
    replace FZ := hid fun o => ((old_cell bel).2 (w.heap.size + 2) o (by omega)).trans (FZ.out o)
    clear bel
    clear a0 a1 a2 a3 a4 b0 b1 b2 b3 b4 k0 k1 k2 k3 k4 j0 j1 j2 j3 j4
    obtain ⟨a0, a1, a2, a3, a4⟩ := PA.out
    obtain ⟨b0, b1, b2, b3, b4⟩ := PB.out
    obtain ⟨k0, k1, k2, k3, k4⟩ := PZ.out
    have fz := FZ.out
    have j0 := fz 0
    have j1 := fz 1
    have j2 := fz 2
    have j3 := fz 3
    have j4 := fz 4
    clear fz
    cases E1
    · skip
      go_wp2_with fail
      exact bodyPost_ret (v := .tuple #[.agg #[.int .i64 0, .int .i64 0, .slice none 0 0, .slice none 0 0, .slice none 0 0], .bool false]) (by simp [results, Try.results24, go_sem, k0, k1, k2, k3, k4]) rfl
        ⟨none, 0, none, 0, none, 0, rfl, ownM_nil _, within_nil _ _, (((((BEL.out.setCell (by simp; omega) _).setCell (by simp; omega) _).setCell (by simp; omega) _).setCell (by simp; omega) _).setCell (by simp; omega) _)⟩
    · skip
      go_wp2_with fail
      refine (HE2.out (w.heap.size + 1) _ PB.out (HL'.out.step BEL.out).a).mono ?_
      rintro e w3 ⟨rfl, bel⟩
      have tw3 := bel.size
      replace BEL := hid (BEL.out.trans (bel.mono (by omega)))
      replace PA := hid (PA.out.step bel (by omega))
      replace PB := hid (PB.out.step bel (by omega))
      replace PZ := hid (PZ.out.step bel (by omega))
      replace FZ := hid fun o => ((old_cell bel).2 (w.heap.size + 2) o (by omega)).trans (FZ.out o)
      clear bel
      clear a0 a1 a2 a3 a4 b0 b1 b2 b3 b4 k0 k1 k2 k3 k4 j0 j1 j2 j3 j4
      obtain ⟨a0, a1, a2, a3, a4⟩ := PA.out
      obtain ⟨b0, b1, b2, b3, b4⟩ := PB.out
      obtain ⟨k0, k1, k2, k3, k4⟩ := PZ.out
      have fz := FZ.out
      have j0 := fz 0
      have j1 := fz 1
      have j2 := fz 2
      have j3 := fz 3
      have j4 := fz 4
      clear fz
      cases E2
      · skip
        go_wp2_with fail
        exact bodyPost_ret (v := .tuple #[.agg #[.int .i64 0, .int .i64 0, .slice none 0 0, .slice none 0 0, .slice none 0 0], .bool false]) (by simp [results, Try.results24, go_sem, k0, k1, k2, k3, k4]) rfl
          ⟨none, 0, none, 0, none, 0, rfl, ownM_nil _, within_nil _ _, (((((BEL.out.setCell (by simp; omega) _).setCell (by simp; omega) _).setCell (by simp; omega) _).setCell (by simp; omega) _).setCell (by simp; omega) _)⟩
      · skip
        exact absurd H.out (by simp)
set_option maxHeartbeats 6400000 in
theorem impl_no (w : World) (hl : Lists w A B C zs xs ys) (hl' : Lists w A' B' C' zs' xs' ys') (hS0 : validM S L n zs m xs q ys = true → validM S' L' n' zs' m' xs' q' ys' = true → 0 ≤ S * S' ∧ S * S' ≤ 256)
    (h : (validM S L n zs m xs q ys && validM S' L' n' zs' m' xs' q' ys' && decide (L = L') && noE zs n && noE zs' n' && decide (S * S' ≤ 16)) = false) :
    Calls Try.prog 25 #[.agg #[.int .i64 S, .int .i64 L, .slice A n c, .slice B m d, .slice C q f], .agg #[.int .i64 S', .int .i64 L', .slice A' n' c', .slice B' m' d', .slice C' q' f']] w (RetBM 0 0 0 0 0 [] [] [] false w) := by
  have HL := hid hl
  have HL' := hid hl'
  have HV1 := hid fun w hl => implValid_calls S L A n c B m d C q f zs xs ys hF w hl
  have HV2 := hid fun w hl => implValid_calls S' L' A' n' c' B' m' d' C' q' f' zs' xs' ys' hF' w hl
  have HE1 := hid fun w ha => hasEmpty_calls S L A n c B m d C q f zs hF.z hF.n w ha
  have HE2 := hid fun w ha => hasEmpty_calls S' L' A' n' c' B' m' d' C' q' f' zs' hF'.z hF'.n w ha
  have H := hid h
  have HS := hid hS0
  clear hF hF' hl hl' h hS0
  generalize validM S L n zs m xs q ys = V1 at *
  generalize validM S' L' n' zs' m' xs' q' ys' = V2 at *
  generalize noE zs n = E1 at *
  generalize noE zs' n' = E2 at *
  go_enter Try.func25, Try.ntmps25
  go_wp2_with fail
  refine (HV1.out _ (((HL.out.alloc _).alloc _).alloc _)).mono ?_
  rintro e w1 ⟨rfl, bel1⟩
  have hc := (old_cell bel1).1
  have hf := (old_cell bel1).2
  have s1 : w.heap.size + 3 ≤ w1.heap.size := by have := bel1.size; simp at this; omega
  have BEL := hid ((((Below.refl w.heap.size w).alloc (Nat.le_refl _) _).alloc (by simp) _).alloc (by simp; omega) _ |>.trans (bel1.mono (by simp; omega)))
  have PA := hid (show MachAt w1 (w.heap.size) S L A n c B m d C q f from ⟨by rw [hc _ _ (by simp; omega)]; go_simp, by rw [hc _ _ (by simp; omega)]; go_simp, by rw [hc _ _ (by simp; omega)]; go_simp, by rw [hc _ _ (by simp; omega)]; go_simp, by rw [hc _ _ (by simp; omega)]; go_simp⟩)
  have PB := hid (show MachAt w1 (w.heap.size + 1) S' L' A' n' c' B' m' d' C' q' f' from ⟨by rw [hc _ _ (by simp)]; go_simp, by rw [hc _ _ (by simp)]; go_simp, by rw [hc _ _ (by simp)]; go_simp, by rw [hc _ _ (by simp)]; go_simp, by rw [hc _ _ (by simp)]; go_simp⟩)
  have PZ := hid (show MachAt w1 (w.heap.size + 2) 0 0 none 0 0 none 0 0 none 0 0 from ⟨by rw [hc _ _ (by simp)]; go_simp, by rw [hc _ _ (by simp)]; go_simp, by rw [hc _ _ (by simp)]; go_simp, by rw [hc _ _ (by simp)]; go_simp, by rw [hc _ _ (by simp)]; go_simp⟩)
  have FZ := hid (show ∀ o, w1.frozen? ⟨w.heap.size + 2, o, none⟩ = false from fun o => by rw [hf _ _ (by simp)]; go_simp)
  clear hc hf bel1
  obtain ⟨a0, a1, a2, a3, a4⟩ := PA.out
  obtain ⟨b0, b1, b2, b3, b4⟩ := PB.out
  obtain ⟨k0, k1, k2, k3, k4⟩ := PZ.out
  have fz := FZ.out
  have j0 := fz 0
  have j1 := fz 1
  have j2 := fz 2
  have j3 := fz 3
  have j4 := fz 4
  clear fz
  cases V1
  · skip
    go_wp2_with fail
    exact bodyPost_ret (v := .tuple #[.agg #[.int .i64 0, .int .i64 0, .slice none 0 0, .slice none 0 0, .slice none 0 0], .bool false]) (by simp [results, Try.results25, go_sem, k0, k1, k2, k3, k4]) rfl
      ⟨none, 0, none, 0, none, 0, rfl, ownM_nil _, within_nil _ _, (((((BEL.out.setCell (by simp; omega) _).setCell (by simp; omega) _).setCell (by simp; omega) _).setCell (by simp; omega) _).setCell (by simp; omega) _)⟩
  · skip
    go_wp2_with fail
    refine (HV2.out _ (HL'.out.step BEL.out)).mono ?_
    rintro e w2 ⟨rfl, bel⟩
    have tw2 := bel.size
    replace BEL := hid (BEL.out.trans (bel.mono (by omega)))
    replace PA := hid (PA.out.step bel (by omega))
    replace PB := hid (PB.out.step bel (by omega))
    replace PZ := hid (PZ.out.step bel (by omega))
    replace FZ := hid fun o => ((old_cell bel).2 (w.heap.size + 2) o (by omega)).trans (FZ.out o)
    clear bel
    clear a0 a1 a2 a3 a4 b0 b1 b2 b3 b4 k0 k1 k2 k3 k4 j0 j1 j2 j3 j4
    obtain ⟨a0, a1, a2, a3, a4⟩ := PA.out
    obtain ⟨b0, b1, b2, b3, b4⟩ := PB.out
    obtain ⟨k0, k1, k2, k3, k4⟩ := PZ.out
    have fz := FZ.out
    have j0 := fz 0
    have j1 := fz 1
    have j2 := fz 2
    have j3 := fz 3
    have j4 := fz 4
    clear fz
    cases V2
    · skip
      go_wp2_with fail
      exact bodyPost_ret (v := .tuple #[.agg #[.int .i64 0, .int .i64 0, .slice none 0 0, .slice none 0 0, .slice none 0 0], .bool false]) (by simp [results, Try.results25, go_sem, k0, k1, k2, k3, k4]) rfl
        ⟨none, 0, none, 0, none, 0, rfl, ownM_nil _, within_nil _ _, (((((BEL.out.setCell (by simp; omega) _).setCell (by simp; omega) _).setCell (by simp; omega) _).setCell (by simp; omega) _).setCell (by simp; omega) _)⟩
    · skip
      by_cases hL : L = L'
      · subst hL
        have hL1 : (L != L) = false := bne_self_eq_false _
        go_wp2_with fail
        refine (HE1.out _ (HL.out.step BEL.out).a).mono ?_
        rintro e w3 ⟨rfl, bel⟩
        have tw3 := bel.size
        replace BEL := hid (BEL.out.trans (bel.mono (by omega)))
        replace PA := hid (PA.out.step bel (by omega))
        replace PB := hid (PB.out.step bel (by omega))
        replace PZ := hid (PZ.out.step bel (by omega))
        replace FZ := hid fun o => ((old_cell bel).2 (w.heap.size + 2) o (by omega)).trans (FZ.out o)
        clear bel
        clear a0 a1 a2 a3 a4 b0 b1 b2 b3 b4 k0 k1 k2 k3 k4 j0 j1 j2 j3 j4
        obtain ⟨a0, a1, a2, a3, a4⟩ := PA.out
        obtain ⟨b0, b1, b2, b3, b4⟩ := PB.out
        obtain ⟨k0, k1, k2, k3, k4⟩ := PZ.out
        have fz := FZ.out
        have j0 := fz 0
        have j1 := fz 1
        have j2 := fz 2
        have j3 := fz 3
        have j4 := fz 4
        clear fz
        cases E1
        · skip
          go_wp2_with fail
          exact bodyPost_ret (v := .tuple #[.agg #[.int .i64 0, .int .i64 0, .slice none 0 0, .slice none 0 0, .slice none 0 0], .bool false]) (by simp [results, Try.results25, go_sem, k0, k1, k2, k3, k4]) rfl
            ⟨none, 0, none, 0, none, 0, rfl, ownM_nil _, within_nil _ _, (((((BEL.out.setCell (by simp; omega) _).setCell (by simp; omega) _).setCell (by simp; omega) _).setCell (by simp; omega) _).setCell (by simp; omega) _)⟩
        · skip
          go_wp2_with fail
          refine (HE2.out _ (HL'.out.step BEL.out).a).mono ?_
          rintro e w4 ⟨rfl, bel⟩
          have tw4 := bel.size
          replace BEL := hid (BEL.out.trans (bel.mono (by omega)))
          replace PA := hid (PA.out.step bel (by omega))
          replace PB := hid (PB.out.step bel (by omega))
          replace PZ := hid (PZ.out.step bel (by omega))
          replace FZ := hid fun o => ((old_cell bel).2 (w.heap.size + 2) o (by omega)).trans (FZ.out o)
          clear bel
          clear a0 a1 a2 a3 a4 b0 b1 b2 b3 b4 k0 k1 k2 k3 k4 j0 j1 j2 j3 j4
          obtain ⟨a0, a1, a2, a3, a4⟩ := PA.out
          obtain ⟨b0, b1, b2, b3, b4⟩ := PB.out
          obtain ⟨k0, k1, k2, k3, k4⟩ := PZ.out
          have fz := FZ.out
          have j0 := fz 0
          have j1 := fz 1
          have j2 := fz 2
          have j3 := fz 3
          have j4 := fz 4
          clear fz
          cases E2
          · skip
            go_wp2_with fail
            exact bodyPost_ret (v := .tuple #[.agg #[.int .i64 0, .int .i64 0, .slice none 0 0, .slice none 0 0, .slice none 0 0], .bool false]) (by simp [results, Try.results25, go_sem, k0, k1, k2, k3, k4]) rfl
              ⟨none, 0, none, 0, none, 0, rfl, ownM_nil _, within_nil _ _, (((((BEL.out.setCell (by simp; omega) _).setCell (by simp; omega) _).setCell (by simp; omega) _).setCell (by simp; omega) _).setCell (by simp; omega) _)⟩
          · skip
            obtain ⟨hm0, hm1⟩ := HS.out (by simp) (by simp)
            by_cases hM : S * S' ≤ 16
            · exact absurd H.out (by simp [hM])
            · have hM2 : 16 < S * S' := by omega
              go_wp2_with fail
              exact bodyPost_ret (v := .tuple #[.agg #[.int .i64 0, .int .i64 0, .slice none 0 0, .slice none 0 0, .slice none 0 0], .bool false]) (by simp [results, Try.results25, go_sem, k0, k1, k2, k3, k4]) rfl
                ⟨none, 0, none, 0, none, 0, rfl, ownM_nil _, within_nil _ _, (((((BEL.out.setCell (by simp; omega) _).setCell (by simp; omega) _).setCell (by simp; omega) _).setCell (by simp; omega) _).setCell (by simp; omega) _)⟩
      · have hL1 : (L != L') = true := bne_iff_ne.2 hL
        go_wp2_with fail
        exact bodyPost_ret (v := .tuple #[.agg #[.int .i64 0, .int .i64 0, .slice none 0 0, .slice none 0 0, .slice none 0 0], .bool false]) (by simp [results, Try.results25, go_sem, k0, k1, k2, k3, k4]) rfl
          ⟨none, 0, none, 0, none, 0, rfl, ownM_nil _, within_nil _ _, (((((BEL.out.setCell (by simp; omega) _).setCell (by simp; omega) _).setCell (by simp; omega) _).setCell (by simp; omega) _).setCell (by simp; omega) _)⟩
end
end Go.Proofs.Ytenfleceeeimlaa.fnExactMeetOf
