/-
  The law on OtherPlain.
-/
import Derived.Test.YtlfmcdobiojdlaaOtherYes
namespace Go.Proofs.Ytlfmcdobiojdlaa.fnExactOtherPlain
open Go.RowKit Go.Proofs.Fl Go.Proofs.Ytlfmcdobiojdlaa.Num
set_option linter.unusedVariables false
set_option linter.unusedSimpArgs false
theorem left_small {n m : Nat} (h : ¬ leftP n m 1048576 < 0) : n ≤ 1048576 ∧ m ≤ 1048576 := by
  unfold leftP leftI at h
  split at h
  · omega
  · split at h
    · omega
    · omega
set_option maxHeartbeats 1600000 in
theorem walk' (S L : Int) (A : Option Addr) (n c : Nat) (B : Option Addr) (m d : Nat) (xs : List Int) (bs : List Bool) (hx : xs.length = n) (hb : bs.length = m) (hnc : n ≤ maxLen) (hmd : m ≤ maxLen) {w : World}
    (ha : Rd w w.heap.size A (i64s xs)) (hbs : Rd w w.heap.size B (bools bs)) :
    Calls Try.prog 8 #[.agg #[.int .i64 S, .int .i64 L, .slice A n c, .slice B m d]] w fun e w' => e = .returned (.bool true) ∧ Below w.heap.size w w' := by
  by_cases hl : leftP n m 1048576 < 0
  · unfold maxLen at hnc hmd
    have HS := hid (szPlain_calls S L A n c B m d 1048576 (by omega) (by omega) (by omega))
    clear ha hbs
    generalize leftP n m 1048576 = l at *
    go_enter Try.func8, Try.ntmps8
    go_wp2_with fail
    refine (HS.out _).mono ?_
    rintro e w1 ⟨rfl, bel1⟩
    have BEL := hid (((Below.refl w.heap.size w).alloc (Nat.le_refl _) _).trans (bel1.mono (by simp)))
    clear bel1
    go_wp2
    go_ret
    exact ⟨rfl, BEL.out⟩
  · have hsm := left_small hl
    have HF : FitsP n m xs bs := ⟨hx, hb, by omega, by omega⟩
    have HL : ListsP w A B xs bs := ⟨ha, hbs⟩
    cases hv : validP S L n xs m
    · exact walk S L A n c B m d xs bs HF hl HL 0 0 0 0 [] [] false ⟨rfl, rfl, by omega, by omega⟩
        (fun A c B d w hl => spec_no S L A n c B m d xs bs HF hv w hl) (fun A c B d w hl => impl_no S L A n c B m d xs bs HF hv w hl)
    · exact walk S L A n c B m d xs bs HF hl HL S L n m xs (bs.map not) true ⟨hx, by simpa using hb, HF.n, HF.m⟩
        (fun A c B d w hl => spec_yes S L A n c B m d xs bs HF hv w hl) (fun A c B d w hl => impl_yes S L A n c B m d xs bs HF hv w hl)
end Go.Proofs.Ytlfmcdobiojdlaa.fnExactOtherPlain
