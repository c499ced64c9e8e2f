/-
  The law on ApartWord.
-/
import Derived.Test.YtlfmcdobiojdlaaApImpl2
import Derived.Test.YtlfmcdobiojdlaaApLaw
namespace Go.Proofs.Ytlfmcdobiojdlaa.fnExactApartWord
open Go.RowKit Go.Proofs.Fl Go.Proofs.Ytlfmcdobiojdlaa.Num Go.Proofs.Bfs
set_option linter.unusedVariables false
set_option linter.unusedSimpArgs false
theorem leftP_range {n m : Nat} {l : Int} (hl : l ≤ 1048576) (h : ¬ leftP n m l < 0) : 0 ≤ leftP n m l ∧ leftP n m l ≤ 1048576 ∧ n ≤ 1048576 ∧ m ≤ 1048576 := by
  unfold leftP leftI at *
  split at h
  · omega
  · split at h
    · omega
    · split <;> (try split) <;> omega
theorem retBL_none {w : World} {e : Ending} {w' : World} (h : RetAp2 none w e w') : RetBL 0 [] false w e w' := by
  obtain ⟨A, n, c, rfl, bel, _, h0⟩ := h
  obtain rfl := h0 rfl
  exact ⟨A, c, rfl, ⟨rfl, .inl rfl⟩, (fun r hr g hg => by rw [List.mem_singleton.1 hr] at hg; cases hg), bel⟩
theorem retBL_some {word : List Int} {w : World} {e : Ending} {w' : World} (h : RetAp2 (some word) w e w') : RetBL word.length word true w e w' := by
  obtain ⟨A, n, c, rfl, bel, h1, _⟩ := h
  obtain ⟨rfl, ho, hw⟩ := h1 word rfl
  exact ⟨A, c, rfl, ho, hw, bel⟩
theorem word_len {nx : Nat → Nat → Nat} {L M : Nat} {ap : Nat → Bool} (hM : ∀ c l, c < M → l < L → nx c l < M) (h0 : 0 < M) (hM2 : M ≤ 4096) {word : List Int} (h : AnsI nx L ap (some word)) : word.length ≤ 1048576 := by
  obtain ⟨i, h1, h2⟩ := h
  rcases h2 with ⟨ha, hb, hc⟩ | ⟨_, hc⟩
  · have hg := (Good.qi (L := L) hM h0 i fun j hj => (h1 j hj).1).len
    have hw := qi_wlen i (fun j hj => (h1 j hj).1) _ (pos_mem ha)
    injection hc with hc
    rw [hc]
    omega
  · cases hc
set_option maxHeartbeats 3200000 in
theorem walk' (S L : Int) (A : Option Addr) (n c : Nat) (B : Option Addr) (m d : Nat) (xs : List Int) (bs : List Bool) (hx : xs.length = n) (hb : bs.length = m) (hnc : n ≤ maxLen) (hmd : m ≤ maxLen) {w : World}
    (ha : Rd w w.heap.size A (i64s xs)) (hbs : Rd w w.heap.size B (bools bs))
    (S' L' : Int) (A' : Option Addr) (n' c' : Nat) (B' : Option Addr) (m' d' : Nat) (xs' : List Int) (bs' : List Bool) (hx' : xs'.length = n') (hb' : bs'.length = m') (hnc' : n' ≤ maxLen) (hmd' : m' ≤ maxLen)
    (ha' : Rd w w.heap.size A' (i64s xs')) (hbs' : Rd w w.heap.size B' (bools bs')) :
    Calls Try.prog 9 #[.agg #[.int .i64 S, .int .i64 L, .slice A n c, .slice B m d], .agg #[.int .i64 S', .int .i64 L', .slice A' n' c', .slice B' m' d']] w fun e w' => e = .returned (.bool true) ∧ Below w.heap.size w w' := by
  have g1 := hnc
  have g2 := hmd
  have g1' := hnc'
  have g2' := hmd'
  unfold maxLen at g1 g2 g1' g2'
  by_cases hl : leftP n m 1048576 < 0
  · have HS := hid (szPlain_calls S L A n c B m d 1048576 (by omega) (by omega) (by omega))
    clear ha hbs ha' hbs'
    generalize leftP n m 1048576 = l at *
    go_enter Try.func9, Try.ntmps9
    go_wp2_with fail
    refine (HS.out _).mono ?_
    rintro e w1 ⟨rfl, bel1⟩
    have BEL := hid ((((Below.refl w.heap.size w).alloc (Nat.le_refl _) _).alloc (by simp) _).trans (bel1.mono (by simp; omega)))
    clear bel1
    go_wp2
    go_ret
    exact ⟨rfl, BEL.out⟩
  have hsm := leftP_range (by omega) hl
  by_cases hl' : leftP n' m' (leftP n m 1048576) < 0
  · have HS := hid (szPlain_calls S L A n c B m d 1048576 (by omega) (by omega) (by omega))
    have HS2 := hid (szPlain_calls S' L' A' n' c' B' m' d' (leftP n m 1048576) (by omega) (by omega) ⟨hsm.1, hsm.2.1⟩)
    clear ha hbs ha' hbs' hsm
    generalize leftP n m 1048576 = l at *
    generalize leftP n' m' l = l2 at *
    go_enter Try.func9, Try.ntmps9
    go_wp2_with fail
    refine (HS.out _).mono ?_
    rintro e w1 ⟨rfl, bel1⟩
    have s1 : w.heap.size + 2 ≤ w1.heap.size := by have := bel1.size; simp at this; omega
    have BEL := hid ((((Below.refl w.heap.size w).alloc (Nat.le_refl _) _).alloc (by simp) _).trans (bel1.mono (by simp; omega)))
    have hcc := (old_cell bel1).1
    obtain ⟨b0, b1, b2, b3⟩ := show PlainAt w1 (w.heap.size + 1) S' L' A' n' c' B' m' d' from ⟨by rw [hcc _ _ (by simp)]; go_simp, by rw [hcc _ _ (by simp)]; go_simp, by rw [hcc _ _ (by simp)]; go_simp, by rw [hcc _ _ (by simp)]; go_simp⟩
    clear hcc bel1
    go_wp2_with fail
    refine (HS2.out _).mono ?_
    rintro e w2 ⟨rfl, bel2⟩
    have BEL2 := hid (BEL.out.trans (bel2.mono (by omega)))
    clear bel2
    go_wp2
    go_ret
    exact ⟨rfl, BEL2.out⟩
  have hsm' := leftP_range hsm.2.1 hl'
  have HF : FitsP n m xs bs := ⟨hx, hb, hsm.2.2.1, hsm.2.2.2⟩
  have HF' : FitsP n' m' xs' bs' := ⟨hx', hb', hsm'.2.2.1, hsm'.2.2.2⟩
  have HL : ListsP w A B xs bs := ⟨ha, hbs⟩
  have HL' : ListsP w A' B' xs' bs' := ⟨ha', hbs'⟩
  cases hA : alikeP S L n xs m S' L' n' xs' m'
  · exact walk S L A n c B m d xs bs HF S' L' A' n' c' B' m' d' xs' bs' HF' hl hl' ⟨hsm.1, hsm.2.1⟩ HL HL' 0 [] false rfl (by omega)
      (fun A c B d A' c' B' d' w hl hl' => (spec_no S L A n c B m d xs hx HF.n HF.m S' L' A' n' c' B' m' d' xs' hx' HF'.n HF'.m w hl.a hl'.a hA).mono fun e w' h => retBL_none h)
      (fun A c B d A' c' B' d' w hl hl' => (impl_no S L A n c B m d xs hx HF.n HF.m S' L' A' n' c' B' m' d' xs' hx' HF'.n HF'.m w hl.a hl'.a hA).mono fun e w' h => retBL_none h)
  · have hA2 := hA
    unfold alikeP at hA2
    simp only [Bool.and_eq_true, decide_eq_true_eq] at hA2
    obtain ⟨⟨v1, v2⟩, rfl⟩ := hA2
    obtain ⟨s, l, rfl, hLl, hP⟩ := pl_of hx hb v1
    obtain ⟨s', l', rfl, hLl', hP'⟩ := pl_of hx' hb' v2
    subst hLl
    obtain rfl : l = l' := by omega
    have hM : ∀ c k, c < s * s' → k < l → nxA xs xs' l s' c k < s * s' := fun c k hc hk => nxA_lt hP hP' hc hk
    have h0 : 0 < s * s' := Nat.mul_pos hP.s1 hP'.s1
    obtain ⟨r, hr⟩ := ansS_exists (nx := nxA xs xs' l s') (L := l) (M := s * s') (ap := apA bs bs' s') hM h0
    have hI := ans_same hr
    cases r with
    | none =>
      exact walk s l A n c B m d xs bs HF s' l A' n' c' B' m' d' xs' bs' HF' hl hl' ⟨hsm.1, hsm.2.1⟩ HL HL' 0 [] false rfl (by omega)
        (fun A c B d A' c' B' d' w hl hl' => (spec_yes s l A n c B m d xs bs hP HF.n HF.m s' A' n' c' B' m' d' xs' bs' hP' HF'.n HF'.m none hr w hl hl' hA).mono fun e w' h => retBL_none h)
        (fun A c B d A' c' B' d' w hl hl' => (impl_yes s l A n c B m d xs bs hP HF.n HF.m s' A' n' c' B' m' d' xs' bs' hP' HF'.n HF'.m none hI w hl hl' hA).mono fun e w' h => retBL_none h)
    | some word =>
      exact walk s l A n c B m d xs bs HF s' l A' n' c' B' m' d' xs' bs' HF' hl hl' ⟨hsm.1, hsm.2.1⟩ HL HL' word.length word true rfl (word_len hM h0 (Pl.mulb hP hP') hI)
        (fun A c B d A' c' B' d' w hl hl' => (spec_yes s l A n c B m d xs bs hP HF.n HF.m s' A' n' c' B' m' d' xs' bs' hP' HF'.n HF'.m _ hr w hl hl' hA).mono fun e w' h => retBL_some h)
        (fun A c B d A' c' B' d' w hl hl' => (impl_yes s l A n c B m d xs bs hP HF.n HF.m s' A' n' c' B' m' d' xs' bs' hP' HF'.n HF'.m _ hI w hl hl' hA).mono fun e w' h => retBL_some h)
end Go.Proofs.Ytlfmcdobiojdlaa.fnExactApartWord
