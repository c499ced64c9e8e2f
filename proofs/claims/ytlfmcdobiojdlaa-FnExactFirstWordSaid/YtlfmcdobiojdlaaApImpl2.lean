/-
  ApartWord, by the program, over the search.
-/
import Derived.Test.YtlfmcdobiojdlaaApImpl
import Derived.Test.YtlfmcdobiojdlaaApSpec2
namespace Go.Proofs.Ytlfmcdobiojdlaa.fnExactApartWord
open Go.RowKit Go.Proofs.Fl Go.Proofs.Ytlfmcdobiojdlaa.Num Go.Proofs.Bfs
set_option linter.unusedVariables false
set_option linter.unusedSimpArgs false
set_option maxHeartbeats 3200000 in
theorem impl_no (S L : Int) (A : Option Addr) (n c : Nat) (B : Option Addr) (m d : Nat) (xs : List Int) (hx : xs.length = n) (hn : n ≤ 1048576) (hm : m ≤ 1048576) (S' L' : Int) (A' : Option Addr) (n' c' : Nat) (B' : Option Addr) (m' d' : Nat) (xs' : List Int) (hx' : xs'.length = n') (hn' : n' ≤ 1048576) (hm' : m' ≤ 1048576) (w : World)
    (hl : Rd w w.heap.size A (i64s xs)) (hl' : Rd w w.heap.size A' (i64s xs')) (h : alikeP S L n xs m S' L' n' xs' m' = false) :
    Calls Try.prog 33 #[.agg #[.int .i64 S, .int .i64 L, .slice A n c, .slice B m d], .agg #[.int .i64 S', .int .i64 L', .slice A' n' c', .slice B' m' d']] w (RetAp2 none w) := by
  have HV1 := hid fun w hl => implValid_calls S L A n c B m d xs hx hn hm w hl
  have HV2 := hid fun w hl => implValid_calls S' L' A' n' c' B' m' d' xs' hx' hn' hm' w hl
  have HL := hid hl
  have HL' := hid hl'
  have H := hid h
  unfold alikeP at H
  clear hl hl' h hx hx'
  generalize validP S L n xs m = V1 at *
  generalize validP S' L' n' xs' m' = V2 at *
  go_enter Try.func33, Try.ntmps33
  go_wp2_with fail
  refine (HV1.out _ (rd_alloc (rd_alloc HL.out _) _)).mono ?_
  rintro e w1 ⟨rfl, bel1⟩
  have hc := (old_cell bel1).1
  have s1 : w.heap.size + 2 ≤ w1.heap.size := by have := bel1.size; simp at this; omega
  have BEL := hid ((((Below.refl w.heap.size w).alloc (Nat.le_refl _) (.cells #[.int .i64 S, .int .i64 L, .slice A n c, .slice B m d] 31)).alloc (by simp) (.cells #[.int .i64 S', .int .i64 L', .slice A' n' c', .slice B' m' d'] 31)).trans (bel1.mono (by simp; omega)))
  have PA := hid (show PlainAt w1 w.heap.size S L A n c B m d from ⟨by rw [hc _ _ (by simp; omega)]; go_simp, by rw [hc _ _ (by simp; omega)]; go_simp, by rw [hc _ _ (by simp; omega)]; go_simp, by rw [hc _ _ (by simp; omega)]; go_simp⟩)
  have PB := hid (show PlainAt w1 (w.heap.size + 1) S' L' A' n' c' B' m' d' from ⟨by rw [hc _ _ (by simp)]; go_simp, by rw [hc _ _ (by simp)]; go_simp, by rw [hc _ _ (by simp)]; go_simp, by rw [hc _ _ (by simp)]; go_simp⟩)
  clear hc bel1
  obtain ⟨a0, a1, a2, a3⟩ := PA.out
  obtain ⟨b0, b1, b2, b3⟩ := PB.out
  cases V1
  · go_wp2_with fail
    go_ret2
    exact retAp_none BEL.out
  · go_wp2_with fail
    refine (HV2.out _ (rd_step HL'.out BEL.out)).mono ?_
    rintro e w2 ⟨rfl, bel⟩
    replace BEL := hid (BEL.out.trans (bel.mono (by omega)))
    replace PA := hid (PA.out.step bel (by omega))
    replace PB := hid (PB.out.step bel (by omega))
    clear bel a0 a1 a2 a3 b0 b1 b2 b3
    obtain ⟨a0, a1, a2, a3⟩ := PA.out
    obtain ⟨b0, b1, b2, b3⟩ := PB.out
    cases V2
    · go_wp2_with fail
      go_ret2
      exact retAp_none BEL.out
    · have hLL : ¬ L = L' := by
        have := H.out
        intro e
        subst e
        simp at this
      have hLb : (L == L') = false := beq_eq_false_iff_ne.2 hLL
      have hLn : (L != L') = true := bne_iff_ne.2 hLL
      clear H
      go_wp2_with fail
      go_ret2
      exact retAp_none BEL.out
set_option maxHeartbeats 3200000 in
theorem impl_yes (s l : Nat) (A : Option Addr) (n c : Nat) (B : Option Addr) (m d : Nat) (xs : List Int) (bs : List Bool) (hP : Pl s l n xs m bs) (hn : n ≤ 1048576) (hm : m ≤ 1048576) (s' : Nat) (A' : Option Addr) (n' c' : Nat) (B' : Option Addr) (m' d' : Nat) (xs' : List Int) (bs' : List Bool) (hP' : Pl s' l n' xs' m' bs') (hn' : n' ≤ 1048576) (hm' : m' ≤ 1048576)
    (r : Option (List Int)) (hr : AnsI (nxA xs xs' l s') l (apA bs bs' s') r) (w : World) (hl : ListsP w A B xs bs) (hl' : ListsP w A' B' xs' bs') (h : alikeP s l n xs m s' l n' xs' m' = true) :
    Calls Try.prog 33 #[.agg #[.int .i64 s, .int .i64 l, .slice A n c, .slice B m d], .agg #[.int .i64 s', .int .i64 l, .slice A' n' c', .slice B' m' d']] w (RetAp2 r w) := by
  have hv : validP s l n xs m = true ∧ validP s' l n' xs' m' = true := by
    unfold alikeP at h
    simp only [Bool.and_eq_true] at h
    exact h.1
  have HV1 := hid (hv.1 ▸ fun w hl => implValid_calls s l A n c B m d xs hP.xl hn hm w hl)
  have HV2 := hid (hv.2 ▸ fun w hl => implValid_calls s' l A' n' c' B' m' d' xs' hP'.xl hn' hm' w hl)
  have HAP := hid fun w hl hl' => firstApart_calls s l A n c B m d xs bs hP s' A' n' c' B' m' d' xs' bs' hP' r hr w hl hl'
  have HL := hid hl
  have HL' := hid hl'
  clear hl hl' h hr hP hP' hv
  go_enter Try.func33, Try.ntmps33
  go_wp2_with fail
  refine (HV1.out _ (rd_alloc (rd_alloc HL.out.a _) _)).mono ?_
  rintro e w1 ⟨rfl, bel1⟩
  have hc := (old_cell bel1).1
  have s1 : w.heap.size + 2 ≤ w1.heap.size := by have := bel1.size; simp at this; omega
  have BEL := hid ((((Below.refl w.heap.size w).alloc (Nat.le_refl _) (.cells #[.int .i64 (s : Int), .int .i64 (l : Int), .slice A n c, .slice B m d] 31)).alloc (by simp) (.cells #[.int .i64 (s' : Int), .int .i64 (l : Int), .slice A' n' c', .slice B' m' d'] 31)).trans (bel1.mono (by simp; omega)))
  have PA := hid (show PlainAt w1 w.heap.size s l A n c B m d from ⟨by rw [hc _ _ (by simp; omega)]; go_simp, by rw [hc _ _ (by simp; omega)]; go_simp, by rw [hc _ _ (by simp; omega)]; go_simp, by rw [hc _ _ (by simp; omega)]; go_simp⟩)
  have PB := hid (show PlainAt w1 (w.heap.size + 1) s' l A' n' c' B' m' d' from ⟨by rw [hc _ _ (by simp)]; go_simp, by rw [hc _ _ (by simp)]; go_simp, by rw [hc _ _ (by simp)]; go_simp, by rw [hc _ _ (by simp)]; go_simp⟩)
  clear hc bel1
  obtain ⟨a0, a1, a2, a3⟩ := PA.out
  obtain ⟨b0, b1, b2, b3⟩ := PB.out
  go_wp2_with fail
  refine (HV2.out _ (rd_step HL'.out.a BEL.out)).mono ?_
  rintro e w2 ⟨rfl, bel⟩
  replace BEL := hid (BEL.out.trans (bel.mono (by omega)))
  replace PA := hid (PA.out.step bel (by omega))
  replace PB := hid (PB.out.step bel (by omega))
  have s2 := bel.size
  clear bel a0 a1 a2 a3 b0 b1 b2 b3
  obtain ⟨a0, a1, a2, a3⟩ := PA.out
  obtain ⟨b0, b1, b2, b3⟩ := PB.out
  have hLb : ((l : Int) == (l : Int)) = true := beq_self_eq_true _
  have hLn : ((l : Int) != (l : Int)) = false := bne_self_eq_false _
  go_wp2_with fail
  refine (HAP.out w2 (HL.out.step BEL.out) (HL'.out.step BEL.out)).mono ?_
  rintro e w3 ⟨A9, n9, c9, rfl, bel, hw, hw0⟩
  have BEL3 := hid (BEL.out.trans (bel.mono (by omega)))
  have HW := hid hw
  clear bel hw
  go_wp2_with fail
  go_ret2
  exact ⟨A9, n9, c9, rfl, BEL3.out, (fun word' h => ⟨(HW.out word' h).1, (HW.out word' h).2.1, ((HW.out word' h).2.2).mono (by omega) (Nat.le_refl _)⟩), hw0⟩
end Go.Proofs.Ytlfmcdobiojdlaa.fnExactApartWord
