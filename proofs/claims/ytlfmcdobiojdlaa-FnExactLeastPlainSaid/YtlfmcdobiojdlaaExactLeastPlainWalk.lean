/-
  The law on LeastPlain.
-/
import Derived.Test.YtlfmcdobiojdlaaLeastImpl2
import Derived.Test.YtlfmcdobiojdlaaLeastLaw
namespace Go.Proofs.Ytlfmcdobiojdlaa.fnExactLeastPlain
open Go.RowKit Go.Proofs.Fl Go.Proofs.Ytlfmcdobiojdlaa.Num Go.Proofs.Exp
open Go.Proofs.Ytlfmcdobiojdlaa.fnExactApartWord (pl_of)
set_option linter.unusedVariables false
set_option linter.unusedSimpArgs false
theorem left_small {n m : Nat} (h : ¬ leftP n m 1048576 < 0) : n ≤ 1048576 ∧ m ≤ 1048576 := by
  unfold leftP leftI at h
  split at h
  · omega
  · split at h
    · omega
    · omega
set_option maxHeartbeats 1600000 in
theorem walk' (S L : Int) (A : Option Addr) (n c : Nat) (B : Option Addr) (m d : Nat) (xs : List Int) (bs : List Bool) (hx : xs.length = n) (hb : bs.length = m) (hnc : n ≤ maxLen) (hmd : m ≤ maxLen) {w : World}
    (ha : Rd w w.heap.size A (i64s xs)) (hbs : Rd w w.heap.size B (bools bs)) :
    Calls Try.prog 12 #[.agg #[.int .i64 S, .int .i64 L, .slice A n c, .slice B m d]] w fun e w' => e = .returned (.bool true) ∧ Below w.heap.size w w' := by
  by_cases hl : leftP n m 1048576 < 0
  · unfold maxLen at hnc hmd
    have HS := hid (szPlain_calls S L A n c B m d 1048576 (by omega) (by omega) (by omega))
    clear ha hbs
    generalize leftP n m 1048576 = l at *
    go_enter Try.func12, Try.ntmps12
    go_wp2_with fail
    refine (HS.out _).mono ?_
    rintro e w1 ⟨rfl, bel1⟩
    have BEL := hid (((Below.refl w.heap.size w).alloc (Nat.le_refl _) _).trans (bel1.mono (by simp)))
    clear bel1
    go_wp2
    go_ret
    exact ⟨rfl, BEL.out⟩
  · have hsm := left_small hl
    have HF : FitsP n m xs bs := ⟨hx, hb, by omega, by omega⟩
    have HL : ListsP w A B xs bs := ⟨ha, hbs⟩
    cases hv : validP S L n xs m
    · exact walk S L A n c B m d xs bs HF hl HL 0 0 0 0 [] [] false ⟨rfl, rfl, by omega, by omega⟩
        (fun A c B d w hl => spec_no S L A n c B m d xs hx HF.n HF.m w hl.a hv) (fun A c B d w hl => impl_no S L A n c B m d xs hx HF.n HF.m w hl.a hv)
    · obtain ⟨s, l, rfl, rfl, hP⟩ := pl_of hx hb hv
      obtain ⟨r, hr⟩ := ans_exists (nxL xs bs s l) (enC xs bs s l) l (clF xs bs s l 0)
      have h64 : ∀ i, (∀ j, j < i → j < (Q (nxL xs bs s l) l (clF xs bs s l 0) j).length) → (Q (nxL xs bs s l) l (clF xs bs s l 0) i).length ≤ 64 := fun i hi => by
        have := Q_len (nx := nxL xs bs s l) (L := l) (c0 := clF xs bs s l 0) (M := nCl xs bs s l) (cl_lt hP (show 0 < s from hP.s1)) (fun c k hc hk => nxL_lt hP hc hk) i hi
        have := nCl_le xs bs s l
        have := hP.s2
        omega
      have hr2 := hr
      obtain ⟨i, h1, h2⟩ := hr2
      rcases h2 with ⟨a1, a2, _⟩ | ⟨a1, a2, rfl⟩
      · have := h64 i fun j hj => (h1 j hj).1
        omega
      · have hl4 := hP.l2
        have e1 := N_len (nxL xs bs s l) l (clF xs bs s l 0) i
        have e2 := D_len (nxL xs bs s l) (enC xs bs s l) l (clF xs bs s l 0) i
        have b1 : (N (nxL xs bs s l) l (clF xs bs s l 0) i).length ≤ 256 := by rw [e1]; have := Nat.mul_le_mul a2 hl4; omega
        exact walk s l A n c B m d xs bs HF hl HL i l _ _ (N (nxL xs bs s l) l (clF xs bs s l 0) i) (D (nxL xs bs s l) (enC xs bs s l) l (clF xs bs s l 0) i) true ⟨rfl, rfl, by omega, by omega⟩
          (fun A c B d w hl => spec_yes s l A n c B m d xs bs hP HF.n HF.m i _ _ hr w hl hv) (fun A c B d w hl => impl_yes s l A n c B m d xs bs hP HF.n HF.m i _ _ hr w hl hv)
end Go.Proofs.Ytlfmcdobiojdlaa.fnExactLeastPlain
