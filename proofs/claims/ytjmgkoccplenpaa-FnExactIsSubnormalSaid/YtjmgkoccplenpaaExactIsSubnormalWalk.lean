/-
  The law on IsSubnormal: the program compares the absolute value with the least normal number, the reference looks at the bits of the exponent.
-/
import Derived.Test.YtjmgkoccplenpaaSub
import Derived.Test.YtjmgkoccplenpaaBits
namespace Go.Proofs.Ytjmgkoccplenpaa.fnExactIsSubnormal
open Go.RowKit Go.Proofs.Fl Go.Proofs.Ytjmgkoccplenpaa.Num
set_option linter.unusedVariables false

theorem spec_calls (x : Nat) (hx : x < 4294967296) (w : World) : Calls Try.prog 20 #[.float .f32 x] w (Ret (.bool (subB x)) w) := by
  have en := neq_zero32 x
  by_cases h : nan .f32 x = true ∨ rg Ieee.single x ≠ 0
  · rw [show (nan .f32 x || decide (rg Ieee.single x ≠ 0)) = true by simpa using h] at en
    have H := hid (low_bits hx h)
    clear h
    go_enter Try.func20, Try.ntmps20
    go_wp2_with (go_at_call 28; refine (l01Bits_calls _ (by assumption) _).mono ?_; rintro e w' ⟨rfl, n, rfl⟩)
    go_ret
    exact ⟨ret_bool H.out, _, rfl⟩
  · rw [show (nan .f32 x || decide (rg Ieee.single x ≠ 0)) = false by simpa using h] at en
    have H := hid h
    clear h
    go_enter Try.func20, Try.ntmps20
    go_wp2
    go_ret
    exact ⟨ret_bool (subB_zero H.out).symm, 0, rfl⟩
theorem walk (x : Nat) (hw : (Lit.float .f32 x).wf = true) (w : World) : Calls Try.prog 8 #[.float .f32 x] w fun e w' => e = .returned (.bool true) ∧ Below w.heap.size w w' := by
  have hx : x < 4294967296 := wf32 hw
  clear hw
  go_enter Try.func8, Try.ntmps8
  go_wp2_with (first | (go_at_call 20; refine (spec_calls _ (by assumption) _).mono ?_; rintro e w' ⟨rfl, n, rfl⟩) | (go_at_call 21; refine (IsSubnormal_calls _ _).mono ?_; rintro e w' ⟨rfl, n, rfl⟩))
  go_ret
  exact ⟨rfl, below_drewN (Below.refl _ _) _⟩
end Go.Proofs.Ytjmgkoccplenpaa.fnExactIsSubnormal
