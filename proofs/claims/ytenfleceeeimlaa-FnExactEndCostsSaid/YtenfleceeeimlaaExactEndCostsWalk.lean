/-
  The law on EndCosts.
-/
import Derived.Test.YtenfleceeeimlaaEndImpl
namespace Go.Proofs.Ytenfleceeeimlaa.fnExactEndCosts
open Go.RowKit Go.Proofs.Fl Go.Proofs.Ytenfleceeeimlaa.Num
set_option linter.unusedVariables false
set_option linter.unusedSimpArgs false
set_option maxHeartbeats 1600000 in
theorem walk' (S L : Int) (A : Option Addr) (n c : Nat) (B : Option Addr) (m d : Nat) (C : Option Addr) (q f : Nat) (zs xs ys : List Int) (hz : zs.length = n * 4) (hx : xs.length = m) (hy : ys.length = q) (hnc : n ≤ maxLen) (hmd : m ≤ maxLen) (hqf : q ≤ maxLen) {w : World}
    (ha : Rd w w.heap.size A (i64s zs)) (hb : Rd w w.heap.size B (i64s xs)) (hc : Rd w w.heap.size C (i64s ys)) :
    Calls Try.prog 6 #[.agg #[.int .i64 S, .int .i64 L, .slice A n c, .slice B m d, .slice C q f]] w fun e w' => e = .returned (.bool true) ∧ Below w.heap.size w w' := by
  by_cases hl : leftM n m q 1048576 < 0
  · unfold maxLen at hnc hmd hqf
    have HS := hid (szMachine_calls S L A n c B m d C q f 1048576 (by omega) (by omega) (by omega) (by omega))
    clear ha hb hc
    generalize leftM n m q 1048576 = l at *
    go_enter Try.func6, Try.ntmps6
    go_wp2_with fail
    refine (HS.out _).mono ?_
    rintro e w1 ⟨rfl, bel1⟩
    have BEL := hid (((Below.refl w.heap.size w).alloc (Nat.le_refl _) _).trans (bel1.mono (by simp)))
    clear bel1
    go_wp2
    go_ret
    exact ⟨rfl, BEL.out⟩
  · have hsm := leftM_range (by omega) hl
    have HF : Fits n m q zs xs ys := ⟨hz, hx, hy, hsm.2.2.1, hsm.2.2.2.1, hsm.2.2.2.2⟩
    have HL : Lists w A B C zs xs ys := ⟨ha, hb, hc⟩
    cases hv : validM S L n zs m xs q ys
    · exact walk S L A n c B m d C q f zs xs ys HF hl HL 0 [] false rfl (by omega)
        (fun A c B d C f w hl => spec_no S L A n c B m d C q f zs xs ys HF hv w hl) (fun A c B d C f w hl => impl_no S L A n c B m d C q f zs xs ys HF hv w hl)
    · have hva := valid_ends hy hv
      have he := ends_same (F := 1000000000) (G := 1099511627776) (zs := zs) (n := n) (ys := ys) (by rw [hy]; exact hva.1) (by rw [hy]; exact hva.2.1) hva.2.2.1 (by rw [hy]; exact hva.2.2.2.1) (by omega) (by omega)
      exact walk S L A n c B m d C q f zs xs ys HF hl HL q (endsOf 1000000000 zs n ys) true (by rw [endsOf_len]; exact hy) HF.q
        (fun A c B d C f w hl => spec_yes S L A n c B m d C q f zs xs ys HF hv w hl) (fun A c B d C f w hl => he ▸ impl_yes S L A n c B m d C q f zs xs ys HF hv w hl)
end Go.Proofs.Ytenfleceeeimlaa.fnExactEndCosts
