/-
  The law on SumNumbers: both texts add from left to right, up to 256 numbers; the argument's copy is left as it was.
-/
import Derived.Test.YtpdenbflibplfaaSum
import Derived.Test.YtpdenbflibplfaaFew
import Derived.Test.YtpdenbflibplfaaToF32
import Derived.Test.YtpdenbflibplfaaEqF32
namespace Go.Proofs.Ytpdenbflibplfaa.fnExactSumNumbers
open Go.RowKit Go.Proofs.Fl Go.Proofs.Ytpdenbflibplfaa.Num
set_option linter.unusedVariables false

/-- what both texts return: the sum, or zero and false for too many numbers -/
def sumR (n : Nat) (xs : List Nat) : Nat := if n ≤ 256 then sumF xs else 0
def sumB (n : Nat) : Bool := decide (n ≤ 256)
theorem spec_calls (A : Option Addr) (n c : Nat) (xs : List Nat) (hx : xs.length = n) (hn : n ≤ 1048576) (w : World) (ha : Rd w w.heap.size A (f32s xs)) :
    Calls Try.prog 25 #[.slice A n c] w (RetFB .f32 (sumR n xs) (sumB n) w) := by
  have HX := hid hx
  clear hx
  by_cases h : n ≤ 256
  · have HD := hid (show decide (n ≤ 256) = true by simp [h])
    have HR := hid (show sumR n xs = sumF xs by simp [sumR, h])
    have HB := hid (show sumB n = true by simp [sumB, h])
    go_enter Try.func25, Try.ntmps25
    go_wp2_with (first | (go_at_call 57; refine (l01Few_is _ _ _ true HD.out _).mono ?_; rintro e w' ⟨rfl, q, rfl⟩) | (go_at_call 59; refine (l01Sum_calls A n c xs HX.out hn _ (ha.drewN _)).mono ?_; rintro e w' ⟨v, q2, rfl, hv, rfl⟩))
    go_ret2
    exact ⟨v, _, by rw [HB.out]; rfl, by rw [HR.out]; exact hv, rfl⟩
  · have HD := hid (show decide (n ≤ 256) = false by simp [h])
    have HR := hid (show sumR n xs = 0 by simp [sumR, h])
    have HB := hid (show sumB n = false by simp [sumB, h])
    go_enter Try.func25, Try.ntmps25
    go_wp2_with (first | (go_at_call 57; refine (l01Few_is _ _ _ false HD.out _).mono ?_; rintro e w' ⟨rfl, q, rfl⟩))
    go_ret2
    exact ⟨0, _, by rw [HB.out]; rfl, by rw [HR.out]; exact FEq.refl _ _, rfl⟩
theorem impl_calls (A : Option Addr) (n c : Nat) (xs : List Nat) (hx : xs.length = n) (w : World) (ha : Rd w w.heap.size A (f32s xs)) :
    Calls Try.prog 26 #[.slice A n c] w (RetFB .f32 (sumR n xs) (sumB n) w) := by
  by_cases h : n ≤ 256
  · have HR := show sumR n xs = sumF xs by simp [sumR, h]
    have HB := show sumB n = true by simp [sumB, h]
    rw [HR, HB]
    exact SumNumbers_yes A n c xs hx h w ha
  · have HR := show sumR n xs = 0 by simp [sumR, h]
    have HB := show sumB n = false by simp [sumB, h]
    rw [HR, HB]
    exact SumNumbers_no A n c (by omega) w
set_option maxHeartbeats 800000 in
theorem walk (A : Option Addr) (n c : Nat) (xs : List Nat) (hx : xs.length = n) (hnc : n ≤ c) (hc : c ≤ maxLen) {w : World} (ha : Rd w w.heap.size A (f32s xs)) (hwf : ∀ z ∈ xs, (Lit.float .f32 z).wf = true) :
    Calls Try.prog 6 #[.slice A n c] w fun e w' => e = .returned (.bool true) ∧ Below w.heap.size w w' := by
  have HX := hid hx
  unfold maxLen at hc
  clear hx hwf
  by_cases hn : n ≤ 1048576
  · go_enter Try.func6, Try.ntmps6
    go_wp2_with fail
    refine (toFloat32S_calls A n c xs HX.out hn _ ha).mono ?_
    rintro e w1 ⟨g1, rfl, own1, bel1⟩
    have BEL1 := hid bel1
    have ha1 := hid (show Rd w1 w1.heap.size A (f32s xs) from (ha.below bel1).more bel1.size)
    have hv1 := hid (show Rd w1 w1.heap.size (some ⟨g1, 0, none⟩) (f32s xs) from Rd.of_own own1)
    clear own1 bel1
    go_wp2_with fail
    refine (spec_calls _ n _ xs HX.out hn _ hv1.out).mono ?_
    rintro e w' ⟨v2, n2, rfl, hf2, rfl⟩
    have HF2 := hid hf2
    clear hf2 hv1
    go_wp2_with fail
    refine (toFloat32S_calls A n c xs HX.out hn _ (ha1.out.drewN _)).mono ?_
    rintro e w3 ⟨g3, rfl, own3, bel3⟩
    have BEL3 := hid (show Below w.heap.size w w3 from BEL1.out.trans (((below_drewN (Below.refl _ _) n2).trans (bel3.mono (Nat.le_refl _))).mono BEL1.out.size))
    have ha3 := hid (show Rd w3 w3.heap.size A (f32s xs) from ((ha1.out.drewN n2).below bel3).more bel3.size)
    have hv3 := hid (show Rd w3 w3.heap.size (some ⟨g3, 0, none⟩) (f32s xs) from Rd.of_own own3)
    clear own3 bel3 BEL1 ha1
    go_wp2_with fail
    refine (impl_calls _ n _ xs HX.out _ hv3.out).mono ?_
    rintro e w' ⟨v4, n4, rfl, hf4, rfl⟩
    have HF4 := hid (hf4.trans HF2.out.symm)
    clear hf4 HF2
    go_wp2_with (first | (refine wpList_wide rfl rfl (by kernel_rfl) Try.underlying26 ?_; intro v q hv) | (go_at_call 18; refine (sameFloat_calls _ _ (wide_same HF4.out (by assumption) (by assumption)) _).mono ?_; rintro e w' ⟨rfl, n5, rfl⟩))
    refine (toFloat32S_calls A n c xs HX.out hn _ (ha3.out.drewN _)).mono ?_
    rintro e w6 ⟨g6, rfl, own6, bel6⟩
    have hv6 := hid (show Rd w6 w6.heap.size (some ⟨g6, 0, none⟩) (f32s xs) from Rd.of_own own6)
    have hv7 := hid (show Rd w6 w6.heap.size (some ⟨g3, 0, none⟩) (f32s xs) from ((hv3.out.drewN _).below bel6).more bel6.size)
    have BEL6 := hid (show Below w.heap.size w w6 from (below_drewN BEL3.out _).trans (bel6.mono BEL3.out.size))
    clear own6 bel6
    go_wp2_with (go_at_call 24; refine (eqFloat32S_yes _ _ n _ _ xs xs HX.out HX.out hn _ hv7.out hv6.out (fun i h1 h2 => FEq.refl _ _)).mono ?_; rintro e w' ⟨rfl, n8, rfl⟩)
    go_ret
    exact ⟨rfl, below_drewN BEL6.out _⟩
  · go_enter Try.func6, Try.ntmps6
    go_wp2
    go_ret
    exact ⟨rfl, Below.refl _ _⟩
end Go.Proofs.Ytpdenbflibplfaa.fnExactSumNumbers
