/-
  The law on MeetPlain.
-/
import Derived.Test.YtlfmcdobiojdlaaMeetPImpl
import Derived.Test.YtlfmcdobiojdlaaMeetPLaw
namespace Go.Proofs.Ytlfmcdobiojdlaa.fnExactMeetPlain
open Go.RowKit Go.Proofs.Fl Go.Proofs.Ytlfmcdobiojdlaa.Num Go.Proofs.Exp
open Go.Proofs.Ytlfmcdobiojdlaa.fnExactApartWord (nxA nxA_lt Pl pl_of)
set_option linter.unusedVariables false
set_option linter.unusedSimpArgs false
theorem ans_bound {nx : Nat → Nat → Nat} {en : Nat → Bool} {L c0 i : Nat} {N0 : List Int} {D0 : List Bool} (h : Ans nx en L c0 (some (i, N0, D0))) : i ≤ 64 ∧ N0.length = i * L ∧ D0.length = i := by
  obtain ⟨k, _, h2⟩ := h
  rcases h2 with ⟨_, _, h3⟩ | ⟨_, h4, h3⟩
  · cases h3
  · cases h3
    exact ⟨h4, N_len nx L c0 _, D_len nx en L c0 _⟩
theorem leftP_range {n m : Nat} {l : Int} (hl : l ≤ 1048576) (h : ¬ leftP n m l < 0) : 0 ≤ leftP n m l ∧ leftP n m l ≤ 1048576 ∧ n ≤ 1048576 ∧ m ≤ 1048576 := by
  unfold leftP leftI at *
  split at h
  · omega
  · split at h
    · omega
    · split <;> (try split) <;> omega
set_option maxHeartbeats 3200000 in
theorem walk' (S L : Int) (A : Option Addr) (n c : Nat) (B : Option Addr) (m d : Nat) (xs : List Int) (bs : List Bool) (hx : xs.length = n) (hb : bs.length = m) (hnc : n ≤ maxLen) (hmd : m ≤ maxLen) {w : World}
    (ha : Rd w w.heap.size A (i64s xs)) (hbs : Rd w w.heap.size B (bools bs))
    (S' L' : Int) (A' : Option Addr) (n' c' : Nat) (B' : Option Addr) (m' d' : Nat) (xs' : List Int) (bs' : List Bool) (hx' : xs'.length = n') (hb' : bs'.length = m') (hnc' : n' ≤ maxLen) (hmd' : m' ≤ maxLen)
    (ha' : Rd w w.heap.size A' (i64s xs')) (hbs' : Rd w w.heap.size B' (bools bs')) :
    Calls Try.prog 11 #[.agg #[.int .i64 S, .int .i64 L, .slice A n c, .slice B m d], .agg #[.int .i64 S', .int .i64 L', .slice A' n' c', .slice B' m' d']] w fun e w' => e = .returned (.bool true) ∧ Below w.heap.size w w' := by
  have g1 := hnc
  have g2 := hmd
  have g1' := hnc'
  have g2' := hmd'
  unfold maxLen at g1 g2 g1' g2'
  by_cases hl : leftP n m 1048576 < 0
  · have HS := hid (szPlain_calls S L A n c B m d 1048576 (by omega) (by omega) (by omega))
    clear ha hbs ha' hbs'
    generalize leftP n m 1048576 = l at *
    go_enter Try.func11, Try.ntmps11
    go_wp2_with fail
    refine (HS.out _).mono ?_
    rintro e w1 ⟨rfl, bel1⟩
    have BEL := hid ((((Below.refl w.heap.size w).alloc (Nat.le_refl _) _).alloc (by simp) _).trans (bel1.mono (by simp; omega)))
    clear bel1
    go_wp2
    go_ret
    exact ⟨rfl, BEL.out⟩
  have hsm := leftP_range (by omega) hl
  by_cases hl' : leftP n' m' (leftP n m 1048576) < 0
  · have HS := hid (szPlain_calls S L A n c B m d 1048576 (by omega) (by omega) (by omega))
    have HS2 := hid (szPlain_calls S' L' A' n' c' B' m' d' (leftP n m 1048576) (by omega) (by omega) ⟨hsm.1, hsm.2.1⟩)
    clear ha hbs ha' hbs' hsm
    generalize leftP n m 1048576 = l at *
    generalize leftP n' m' l = l2 at *
    go_enter Try.func11, Try.ntmps11
    go_wp2_with fail
    refine (HS.out _).mono ?_
    rintro e w1 ⟨rfl, bel1⟩
    have s1 : w.heap.size + 2 ≤ w1.heap.size := by have := bel1.size; simp at this; omega
    have BEL := hid ((((Below.refl w.heap.size w).alloc (Nat.le_refl _) _).alloc (by simp) _).trans (bel1.mono (by simp; omega)))
    have hcc := (old_cell bel1).1
    obtain ⟨b0, b1, b2, b3⟩ := show PlainAt w1 (w.heap.size + 1) S' L' A' n' c' B' m' d' from ⟨by rw [hcc _ _ (by simp)]; go_simp, by rw [hcc _ _ (by simp)]; go_simp, by rw [hcc _ _ (by simp)]; go_simp, by rw [hcc _ _ (by simp)]; go_simp⟩
    clear hcc bel1
    go_wp2_with fail
    refine (HS2.out _).mono ?_
    rintro e w2 ⟨rfl, bel2⟩
    have BEL2 := hid (BEL.out.trans (bel2.mono (by omega)))
    clear bel2
    go_wp2
    go_ret
    exact ⟨rfl, BEL2.out⟩
  have hsm' := leftP_range hsm.2.1 hl'
  have HF : FitsP n m xs bs := ⟨hx, hb, hsm.2.2.1, hsm.2.2.2⟩
  have HF' : FitsP n' m' xs' bs' := ⟨hx', hb', hsm'.2.2.1, hsm'.2.2.2⟩
  have HL : ListsP w A B xs bs := ⟨ha, hbs⟩
  have HL' : ListsP w A' B' xs' bs' := ⟨ha', hbs'⟩
  cases hA : alikeP S L n xs m S' L' n' xs' m'
  · exact walk S L A n c B m d xs bs HF S' L' A' n' c' B' m' d' xs' bs' HF' hl hl' ⟨hsm.1, hsm.2.1⟩ HL HL' 0 0 0 0 [] [] false ⟨rfl, rfl, by omega, by omega⟩
      (fun A c B d A' c' B' d' w hl hl' => spec_no S L A n c B m d xs hx HF.n HF.m S' L' A' n' c' B' m' d' xs' hx' HF'.n HF'.m w hl.a hl'.a hA)
      (fun A c B d A' c' B' d' w hl hl' => impl_no S L A n c B m d xs hx HF.n HF.m S' L' A' n' c' B' m' d' xs' hx' HF'.n HF'.m w hl.a hl'.a hA)
  · have hA2 := hA
    unfold alikeP at hA2
    simp only [Bool.and_eq_true, decide_eq_true_eq] at hA2
    obtain ⟨⟨v1, v2⟩, rfl⟩ := hA2
    obtain ⟨s, l, rfl, hLl, hP⟩ := pl_of hx hb v1
    obtain ⟨s', l', rfl, hLl', hP'⟩ := pl_of hx' hb' v2
    subst hLl
    obtain rfl : l = l' := by omega
    obtain ⟨r, hr⟩ := ans_exists (nxA xs xs' l s') (enA bs bs' s') l 0
    cases r with
    | none =>
      exact walk s l A n c B m d xs bs HF s' l A' n' c' B' m' d' xs' bs' HF' hl hl' ⟨hsm.1, hsm.2.1⟩ HL HL' 0 0 0 0 [] [] false ⟨rfl, rfl, by omega, by omega⟩
        (fun A c B d A' c' B' d' w hl hl' => (spec_yes s l A n c B m d xs bs hP HF.n HF.m s' A' n' c' B' m' d' xs' bs' hP' HF'.n HF'.m none hr w hl hl' hA).mono fun e w' h => h.1 rfl)
        (fun A c B d A' c' B' d' w hl hl' => (impl_yes s l A n c B m d xs bs hP HF.n HF.m s' A' n' c' B' m' d' xs' bs' hP' HF'.n HF'.m none hr w hl hl' hA).mono fun e w' h => h.1 rfl)
    | some x =>
      obtain ⟨i, N0, D0⟩ := x
      have hb := ans_bound hr
      have hl4 := hP.l2
      have h1 : N0.length ≤ 256 := by rw [hb.2.1]; have := Nat.mul_le_mul hb.1 hl4; omega
      have h2 : D0.length ≤ 64 := by rw [hb.2.2]; exact hb.1
      exact walk s l A n c B m d xs bs HF s' l A' n' c' B' m' d' xs' bs' HF' hl hl' ⟨hsm.1, hsm.2.1⟩ HL HL' i l N0.length D0.length N0 D0 true ⟨rfl, rfl, by omega, by omega⟩
        (fun A c B d A' c' B' d' w hl hl' => (spec_yes s l A n c B m d xs bs hP HF.n HF.m s' A' n' c' B' m' d' xs' bs' hP' HF'.n HF'.m _ hr w hl hl' hA).mono fun e w' h => h.2 i N0 D0 rfl)
        (fun A c B d A' c' B' d' w hl hl' => (impl_yes s l A n c B m d xs bs hP HF.n HF.m s' A' n' c' B' m' d' xs' bs' hP' HF'.n HF'.m _ hr w hl hl' hA).mono fun e w' h => h.2 i N0 D0 rfl)
end Go.Proofs.Ytlfmcdobiojdlaa.fnExactMeetPlain
