/-
  Whether a float32 is subnormal, by the program: the absolute value of the number, made a float64, against the least normal number.
-/
import Derived.Test.YtpdenbflibplfaaExt
namespace Go.Proofs.Ytpdenbflibplfaa.Num
open Go.RowKit Go.Proofs.Fl
set_option linter.unusedVariables false

theorem Abs_calls (x : Nat) (w : World) : Calls Try.prog 66 #[.float .f64 x] w (Ret (.float .f64 (rg Ieee.double x)) w) := by
  have e := and_mask63 x
  go_enter Try.func66, Try.ntmps66
  go_wp2
  go_ret
  exact ⟨ret_float (by unfold rg; rw [sw64]), 0, rfl⟩

theorem IsSubnormal_calls (x : Nat) (w : World) : Calls Try.prog 55 #[.float .f32 x] w (Ret (.bool (subB x)) w) := by
  have en := neq_zero32 x
  by_cases h : nan .f32 x = true ∨ rg Ieee.single x ≠ 0
  · rw [show (nan .f32 x || decide (rg Ieee.single x ≠ 0)) = true by simpa using h] at en
    have H := hid h
    clear h
    go_enter Try.func55, Try.ntmps55
    go_wp2_with (first | (refine wpList_wide rfl rfl (by kernel_rfl) Try.underlying26 ?_; intro v n hv) | (go_at_call 66; refine (Abs_calls _ _).mono ?_; rintro e w' ⟨rfl, n, rfl⟩))
    go_ret
    exact ⟨ret_bool (low_told H.out ‹_›), _, rfl⟩
  · rw [show (nan .f32 x || decide (rg Ieee.single x ≠ 0)) = false by simpa using h] at en
    have H := hid h
    clear h
    go_enter Try.func55, Try.ntmps55
    go_wp2
    go_ret
    exact ⟨ret_bool (subB_zero H.out).symm, 0, rfl⟩
end Go.Proofs.Ytpdenbflibplfaa.Num
