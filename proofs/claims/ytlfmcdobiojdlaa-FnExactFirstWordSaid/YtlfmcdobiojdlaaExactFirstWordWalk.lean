/-
  The law on FirstWord.
-/
import Derived.Test.YtlfmcdobiojdlaaFirstBoth
import Derived.Test.YtlfmcdobiojdlaaFirstLaw
namespace Go.Proofs.Ytlfmcdobiojdlaa.fnExactFirstWord
open Go.RowKit Go.Proofs.Fl Go.Proofs.Ytlfmcdobiojdlaa.Num Go.Proofs.Bfs
open Go.Proofs.Ytlfmcdobiojdlaa.fnExactApartWord (RetAp2 pl_of nxA nxA_lt apA Pl qi_wlen)
set_option linter.unusedVariables false
set_option linter.unusedSimpArgs false
theorem left_small {n m : Nat} (h : ¬ leftP n m 1048576 < 0) : n ≤ 1048576 ∧ m ≤ 1048576 := by
  unfold leftP leftI at h
  split at h
  · omega
  · split at h
    · omega
    · omega
theorem retBL_none {w : World} {e : Ending} {w' : World} (h : RetAp2 none w e w') : RetBL 0 [] false w e w' := by
  obtain ⟨A, n, c, rfl, bel, _, h0⟩ := h
  obtain rfl := h0 rfl
  exact ⟨A, c, rfl, ⟨rfl, .inl rfl⟩, (fun r hr g hg => by rw [List.mem_singleton.1 hr] at hg; cases hg), bel⟩
theorem retBL_some {word : List Int} {w : World} {e : Ending} {w' : World} (h : RetAp2 (some word) w e w') : RetBL word.length word true w e w' := by
  obtain ⟨A, n, c, rfl, bel, h1, _⟩ := h
  obtain ⟨rfl, ho, hw⟩ := h1 word rfl
  exact ⟨A, c, rfl, ho, hw, bel⟩
theorem word_len {nx : Nat → Nat → Nat} {L M : Nat} {ap : Nat → Bool} (hM : ∀ c l, c < M → l < L → nx c l < M) (h0 : 0 < M) (hM2 : M ≤ 4096) {word : List Int} (h : AnsI nx L ap (some word)) : word.length ≤ 1048576 := by
  obtain ⟨i, h1, h2⟩ := h
  rcases h2 with ⟨ha, hb, hc⟩ | ⟨_, hc⟩
  · have hg := (Good.qi (L := L) hM h0 i fun j hj => (h1 j hj).1).len
    have hw := qi_wlen i (fun j hj => (h1 j hj).1) _ (pos_mem ha)
    injection hc with hc
    rw [hc]
    omega
  · cases hc
set_option maxHeartbeats 1600000 in
theorem walk' (S L : Int) (A : Option Addr) (n c : Nat) (B : Option Addr) (m d : Nat) (xs : List Int) (bs : List Bool) (hx : xs.length = n) (hb : bs.length = m) (hnc : n ≤ maxLen) (hmd : m ≤ maxLen) {w : World}
    (ha : Rd w w.heap.size A (i64s xs)) (hbs : Rd w w.heap.size B (bools bs)) :
    Calls Try.prog 10 #[.agg #[.int .i64 S, .int .i64 L, .slice A n c, .slice B m d]] w fun e w' => e = .returned (.bool true) ∧ Below w.heap.size w w' := by
  by_cases hl : leftP n m 1048576 < 0
  · unfold maxLen at hnc hmd
    have HS := hid (szPlain_calls S L A n c B m d 1048576 (by omega) (by omega) (by omega))
    clear ha hbs
    generalize leftP n m 1048576 = l at *
    go_enter Try.func10, Try.ntmps10
    go_wp2_with fail
    refine (HS.out _).mono ?_
    rintro e w1 ⟨rfl, bel1⟩
    have BEL := hid (((Below.refl w.heap.size w).alloc (Nat.le_refl _) _).trans (bel1.mono (by simp)))
    clear bel1
    go_wp2
    go_ret
    exact ⟨rfl, BEL.out⟩
  · have hsm := left_small hl
    have HF : FitsP n m xs bs := ⟨hx, hb, by omega, by omega⟩
    have HL : ListsP w A B xs bs := ⟨ha, hbs⟩
    cases hv : validP S L n xs m
    · exact walk S L A n c B m d xs bs HF hl HL 0 [] false rfl (by omega)
        (fun A c B d w hl => (spec_no S L A n c B m d xs hx HF.n HF.m w hl.a hv).mono fun e w' h => retBL_none h)
        (fun A c B d w hl => (impl_no S L A n c B m d xs hx HF.n HF.m w hl.a hv).mono fun e w' h => retBL_none h)
    · obtain ⟨s, l, rfl, rfl, hP⟩ := pl_of hx hb hv
      have hP1 := pl_one l hP.l1 hP.l2
      have hM : ∀ c k, c < s * 1 → k < l → nxA xs (List.replicate l 0) l 1 c k < s * 1 := fun c k hc hk => nxA_lt hP hP1 hc hk
      have h0 : 0 < s * 1 := Nat.mul_pos hP.s1 hP1.s1
      obtain ⟨r, hr⟩ := ansS_exists (nx := nxA xs (List.replicate l 0) l 1) (L := l) (M := s * 1) (ap := apA bs [false] 1) hM h0
      have hI := ans_same hr
      cases r with
      | none =>
        exact walk s l A n c B m d xs bs HF hl HL 0 [] false rfl (by omega)
          (fun A c B d w hl => (spec_yes s l A n c B m d xs bs hP HF.n HF.m none hr w hl hv).mono fun e w' h => retBL_none h)
          (fun A c B d w hl => (impl_yes s l A n c B m d xs bs hP HF.n HF.m none hI w hl hv).mono fun e w' h => retBL_none h)
      | some word =>
        exact walk s l A n c B m d xs bs HF hl HL word.length word true rfl (word_len hM h0 (hP.mulb hP1) hI)
          (fun A c B d w hl => (spec_yes s l A n c B m d xs bs hP HF.n HF.m _ hr w hl hv).mono fun e w' h => retBL_some h)
          (fun A c B d w hl => (impl_yes s l A n c B m d xs bs hP HF.n HF.m _ hI w hl hv).mono fun e w' h => retBL_some h)
end Go.Proofs.Ytlfmcdobiojdlaa.fnExactFirstWord
